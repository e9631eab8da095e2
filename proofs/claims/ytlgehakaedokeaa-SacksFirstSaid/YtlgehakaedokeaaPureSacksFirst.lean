/- Proved: for every input the law SacksFirst answers true: the newest is told first: at most so many are told, each one of the ranges, each once, and the one with the last place stands ahead. Condition: none (every list of integers, all numbers). -/
import Derived.Test.YtlgehakaedokeaaPSacksFirstx5
namespace Go.Proofs.Ytlgehakaedokeaa.Pure
open Go.RowKit Go.Proofs.Ytlgehakaedokeaa.PSacksFirst Go.Proofs.YtlgehakaedokeaaW.PrintWords Go.Proofs.YtlgehakaedokeaaW.PrintLast
set_option linter.unusedVariables false

theorem wrap64_id {x : Int} (h0 : -9223372036854775808 ≤ x) (h1 : x ≤ 9223372036854775807) : wrap64 x = x := by unfold wrap64; omega

theorem picked_eq (a n : Int) (h0 : 0 < n) (h1 : n ≤ 1000000000000) : packthreadkeep_Picked.f a n = some (a % n) := by
  unfold packthreadkeep_Picked.f
  rw [if_neg (by omega)]
  have hm := Int.tmod_eq_emod (a := a) (b := n)
  have hlo := Int.emod_nonneg a (show n ≠ 0 by omega)
  have hhi := Int.emod_lt_of_pos a h0
  by_cases hc : 0 ≤ a ∨ n ∣ a
  · rw [if_pos hc] at hm
    have e : a.tmod n = a % n := by rw [hm]; simp
    rw [e, if_neg (by omega)]
  · rw [if_neg hc] at hm
    have e : a.tmod n = a % n - n := by rw [hm]; congr 1; omega
    rw [e, if_pos (by omega), wrap64_id (by omega) (by omega)]
    congr 1; omega

def Ch : Int → List S29 → Prop
  | _, [] => True
  | lo, r :: t => lo < r.f0 ∧ r.f0 < r.f1 ∧ Ch r.f1 t
def En : Int → List S29 → Int
  | lo, [] => lo
  | _, r :: t => En r.f1 t
def InR : List S29 → Int → Prop
  | [], _ => False
  | r :: t, y => (r.f0 ≤ y ∧ y < r.f1) ∨ InR t y
theorem ch_append : ∀ (a b : List S29) (lo : Int), Ch lo (a ++ b) ↔ Ch lo a ∧ Ch (En lo a) b
  | [], b, lo => by simp [Ch, En]
  | r :: t, b, lo => by
    rw [List.cons_append]
    simp only [Ch, En]
    rw [ch_append t b r.f1]
    constructor
    · rintro ⟨h1, h2, h3, h4⟩
      exact ⟨⟨h1, h2, h3⟩, h4⟩
    · rintro ⟨⟨h1, h2, h3⟩, h4⟩
      exact ⟨h1, h2, h3, h4⟩
theorem en_append : ∀ (a b : List S29) (lo : Int), En lo (a ++ b) = En (En lo a) b
  | [], b, lo => rfl
  | r :: t, b, lo => by
    rw [List.cons_append]
    simp only [En]
    exact en_append t b r.f1
theorem in_append : ∀ (a b : List S29) (y : Int), InR (a ++ b) y ↔ InR a y ∨ InR b y
  | [], b, y => by simp [InR]
  | r :: t, b, y => by
    rw [List.cons_append]
    simp only [InR]
    rw [in_append t b y, or_assoc]
theorem ch_le_en : ∀ (l : List S29) (lo : Int), Ch lo l → lo ≤ En lo l
  | [], lo, _ => Int.le_refl _
  | r :: t, lo, h => by
    obtain ⟨h1, h2, h3⟩ := h
    have := ch_le_en t r.f1 h3
    simp only [En]
    omega
theorem ch_in : ∀ (l : List S29) (lo y : Int), Ch lo l → InR l y → lo < y ∧ y < En lo l
  | [], lo, y, _, h => h.elim
  | r :: t, lo, y, h, hi => by
    obtain ⟨h1, h2, h3⟩ := h
    have e := ch_le_en t r.f1 h3
    simp only [En]
    rcases hi with hi | hi
    · omega
    · have := ch_in t r.f1 y h3 hi
      omega
theorem ch_low : ∀ (l : List S29) (lo lo' : Int), Ch lo l → lo' ≤ lo → Ch lo' l
  | [], _, _, _, _ => True.intro
  | r :: t, lo, lo', h, hl => ⟨by have := h.1; omega, h.2⟩
theorem en_ne : ∀ (l : List S29) (lo lo' : Int), l ≠ [] → En lo l = En lo' l
  | [], _, _, h => absurd rfl h
  | _ :: _, _, _, _ => rfl
theorem drop_rd (l : List S29) (i : Nat) (h : i < l.length) : l.drop i = rd_T29 l (i : Int) :: l.drop (i + 1) := by
  rw [List.drop_eq_getElem_cons h]
  congr 1
  unfold rd_T29
  simp [h]
theorem ch_count : ∀ (l : List S29) (lo : Int) (fs : List Int), Ch lo l → (∀ r, r ∈ l → r.f0 ∈ fs) → l.length ≤ fs.length
  | [], _, _, _, _ => Nat.zero_le _
  | r :: t, lo, fs, h, hf => by
    obtain ⟨h1, h2, h3⟩ := h
    have hm := hf r List.mem_cons_self
    have far : ∀ (t : List S29) (lo : Int), Ch lo t → ∀ q, q ∈ t → lo < q.f0 := by
      intro t
      induction t with
      | nil => intro lo _ q hq; cases hq
      | cons a t ih =>
        intro lo ha q hq
        rcases List.mem_cons.1 hq with rfl | hq
        · exact ha.1
        · have := ih a.f1 ha.2.2 q hq
          have := ha.1
          have := ha.2.1
          omega
    have := ch_count t r.f1 (fs.erase r.f0) h3 (fun q hq => by
      have hq1 := far t r.f1 h3 q hq
      exact (List.mem_erase_of_ne (by omega)).2 (hf q (List.mem_cons_of_mem _ hq)))
    have hp : 0 < fs.length := List.length_pos_of_mem hm
    rw [List.length_erase_of_mem hm] at this
    rw [List.length_cons]
    omega
def Okay (d : Int) (l : List S29) : Prop := Ch d l ∧ 0 ≤ d ∧ En d l ≤ 1048576 ∧ l.length ≤ 16
theorem may_l0 (d : Int) (x1 l : List S29) (hL : l.length ≤ 100) : ∀ (m i k : Nat) (lo : Int), i + m = l.length → m < k →
    ∃ b, hole_May.l0 k d x1 lo l (l.length : Int) (i : Int) = some b ∧ (b = true ↔ (Ch lo (l.drop i) ∧ 0 ≤ d ∧ En lo (l.drop i) ≤ 1048576 ∧ d ≤ 1048576 ∧ x1.length ≤ 16)) := by
  intro m
  induction m with
  | zero =>
    intro i k lo hi hk
    obtain ⟨k, rfl⟩ : ∃ q, k = q + 1 := ⟨k - 1, by omega⟩
    rw [hole_May.l0, if_neg (by omega), List.drop_eq_nil_of_le (by omega)]
    simp only [Ch, En]
    by_cases h1 : d ≥ 0
    · rw [if_pos h1]
      by_cases h2 : lo ≤ 1048576
      · rw [if_pos h2]
        by_cases h3 : d ≤ 1048576
        · rw [if_pos h3]
          exact ⟨_, rfl, by rw [decide_eq_true_iff]; exact ⟨fun h => ⟨True.intro, by omega, by omega, by omega, by omega⟩, fun h => by have := h.2.2.2.2; omega⟩⟩
        · rw [if_neg h3]
          exact ⟨_, rfl, by simp; omega⟩
      · rw [if_neg h2]
        exact ⟨_, rfl, by simp; omega⟩
    · rw [if_neg h1]
      exact ⟨_, rfl, by simp; omega⟩
  | succ m ih =>
    intro i k lo hi hk
    obtain ⟨k, rfl⟩ : ∃ q, k = q + 1 := ⟨k - 1, by omega⟩
    rw [hole_May.l0, if_pos (by omega), if_pos (by omega), if_pos (by omega), drop_rd l i (by omega)]
    generalize rd_T29 l (i : Int) = r
    simp only [Ch, En]
    by_cases h1 : r.f0 ≤ lo
    · rw [if_pos h1]
      exact ⟨_, rfl, by simp; omega⟩
    · rw [if_neg h1]
      by_cases h2 : r.f0 ≥ r.f1
      · rw [if_pos h2]
        exact ⟨_, rfl, by simp; omega⟩
      · rw [if_neg h2, wrap64_id (by omega) (by omega), show ((i : Int) + 1) = ((i + 1 : Nat) : Int) by omega]
        obtain ⟨b, e, hb⟩ := ih (i + 1) k r.f1 (by omega) (by omega)
        refine ⟨b, e, hb.trans ⟨fun h => ⟨⟨by omega, by omega, h.1⟩, h.2⟩, fun h => ⟨h.1.2.2, h.2⟩⟩⟩
theorem may_eq (k : Nat) (d : Int) (l : List S29) (hL : l.length ≤ 100) (hk : 101 < k) : ∃ b, hole_May.f k d l = some b ∧ (b = true ↔ Okay d l) := by
  obtain ⟨b, e, hb⟩ := may_l0 d l l hL l.length 0 k d (by omega) (by omega)
  refine ⟨b, by unfold hole_May.f; exact e, hb.trans ?_⟩
  rw [List.drop_zero]
  constructor
  · rintro ⟨h1, h2, h3, _, h5⟩
    exact ⟨h1, h2, h3, h5⟩
  · rintro ⟨h1, h2, h3, h5⟩
    have := ch_le_en l d h1
    exact ⟨h1, h2, h3, by omega, h5⟩
theorem may_ok (k : Nat) (d : Int) (l : List S29) (h : Okay d l) (hk : 101 < k) : hole_May.f k d l = some true := by
  obtain ⟨b, e, hb⟩ := may_eq k d l (by have := h.2.2.2; omega) hk
  rw [e, hb.2 h]
theorem clone_eq (l : List S29) (h : l.length ≤ 100) : api_Range_31.f l = some l := by
  unfold api_Range_31.f
  rw [Option.bind_some, if_pos (by simp; omega), List.nil_append]
theorem concat3 (k : Nat) (A B : List S29) (x : S29) (hA : A.length ≤ 100) (hB : B.length ≤ 100) (hk : 10 ≤ k) : api_Range_36.f k [A, [x], B] = some (A ++ [x] ++ B) := by
  obtain ⟨k, rfl⟩ : ∃ q, k = q + 10 := ⟨k - 10, by omega⟩
  have r0 : rd_L2 [A, [x], B] 0 = A := rfl
  have r1 : rd_L2 [A, [x], B] 1 = [x] := rfl
  have r2 : rd_L2 [A, [x], B] 2 = B := rfl
  have l3 : (([A, [x], B] : List (List S29)).length : Int) = 3 := rfl
  have l1 : ([x].length : Int) = 1 := rfl
  have w1 : wrap64 (0 + (A.length : Int)) = A.length := by rw [wrap64_id (by omega) (by omega)]; omega
  have w2 : wrap64 ((A.length : Int) + 1) = A.length + 1 := wrap64_id (by omega) (by omega)
  have w3 : wrap64 ((A.length : Int) + 1 + B.length) = A.length + 1 + B.length := wrap64_id (by omega) (by omega)
  have i1 : wrap64 (0 + 1) = 1 := wrap64_id (by decide) (by decide)
  have i2 : wrap64 (1 + 1) = 2 := wrap64_id (by decide) (by decide)
  have i3 : wrap64 (2 + 1) = 3 := wrap64_id (by decide) (by decide)
  unfold api_Range_36.f
  rw [l3, api_Range_36.l0, if_pos (by decide), if_pos (by decide), if_pos (by rw [l3]; decide), r0, w1, if_neg (by omega), i1]
  rw [api_Range_36.l0, if_pos (by decide), if_pos (by decide), if_pos (by rw [l3]; decide), r1, l1, w2, if_neg (by omega), i2]
  rw [api_Range_36.l0, if_pos (by decide), if_pos (by decide), if_pos (by rw [l3]; decide), r2, w3, if_neg (by omega), i3]
  rw [api_Range_36.l0, if_neg (by decide), if_pos (by omega), if_pos (by omega), l3]
  rw [api_Range_36.l1, if_pos (by decide), if_pos (by decide), if_pos (by rw [l3]; decide), r0, if_pos (by simp; omega), i1, List.nil_append]
  rw [api_Range_36.l1, if_pos (by decide), if_pos (by decide), if_pos (by rw [l3]; decide), r1, if_pos (by simp; omega), i2]
  rw [api_Range_36.l1, if_pos (by decide), if_pos (by decide), if_pos (by rw [l3]; decide), r2, if_pos (by simp; omega), i3]
  rw [api_Range_36.l1, if_neg (by decide)]
theorem mn_eq (a b : Int) : mn a b = min a b := by unfold mn; omega
theorem mx_eq (a b : Int) : mx a b = max a b := by unfold mx; omega
theorem merged_l0 (d : Int) (l : List S29) (S : Int → Prop) (F : Int → Prop) (hl : l.length ≤ 16) (_hd : 0 ≤ d) : ∀ (m i k : Nat) (A B : List S29) (a b low : Int), i + m = l.length → m + 10 < k →
    d ≤ low → Ch low (l.drop i) → Ch d A → (En d A < a ∨ A = []) → En d A ≤ low → a < b → Ch (max b d) B → (B ≠ [] → En b B = low) → b ≤ 1048576 → En b B ≤ 1048576 → En low (l.drop i) ≤ 1048576 →
    A.length + B.length + (l.length - i) ≤ 16 → (∀ y, (InR A y ∨ (a ≤ y ∧ y < b) ∨ InR B y ∨ InR (l.drop i) y) ↔ S y) → (∀ r, r ∈ A → F r.f0) → (∀ r, r ∈ B → F r.f0) → F a → (∀ r, r ∈ l.drop i → F r.f0) →
    ∃ d' l', hole_merged.l0 k d A B l (l.length : Int) (i : Int) a b = some (d', l') ∧ Ch d' l' ∧ En d' l' ≤ 1048576 ∧ d ≤ d' ∧ (∀ y, (y < d' ∨ InR l' y) ↔ (y < d ∨ S y)) ∧ (∀ r, r ∈ l' → F r.f0) ∧ l'.length ≤ A.length + B.length + (l.length - i) + 1 := by
  intro m
  induction m with
  | zero =>
    intro i k A B a b low hi hk h1 h2 h3 h4 h5 h6 h7 h8 h9 h10 h11 h12 h13 f1 f2 f3 f4
    obtain ⟨k, rfl⟩ : ∃ q, k = q + 1 := ⟨k - 1, by omega⟩
    rw [hole_merged.l0, if_neg (by omega)]
    have hnil : l.drop i = [] := List.drop_eq_nil_of_le (by omega)
    have hlow := ch_le_en _ _ h2
    rw [hnil] at h13
    simp only [InR, or_false] at h13
    by_cases c : a ≤ d
    · rw [if_pos c, mx_eq]
      have hA : A = [] := by
        rcases h4 with h4 | h4
        · have := ch_le_en A d h3
          omega
        · exact h4
      subst hA
      simp only [InR, false_or] at h13
      refine ⟨max d b, B, rfl, ch_low _ _ _ h7 (by omega), ?_, by omega, fun y => ?_, f2, by omega⟩
      · by_cases hB : B = []
        · subst hB
          simp only [En]
          omega
        · rw [en_ne B (max d b) b hB]
          exact h10
      · rw [← h13]
        by_cases hb : InR B y
        · simp only [hb, or_true]
        · simp only [hb, or_false]
          omega
    · rw [if_neg c, concat3 _ _ _ _ (by omega) (by omega) (by omega), Option.bind_some]
      refine ⟨d, A ++ [⟨a, b⟩] ++ B, rfl, ?_, ?_, Int.le_refl _, fun y => ?_, fun r hr => ?_, by simp; omega⟩
      · rw [ch_append, ch_append, en_append]
        simp only [Ch, En]
        refine ⟨⟨h3, ?_, h6, True.intro⟩, ch_low _ _ _ h7 (by omega)⟩
        rcases h4 with h4 | h4
        · exact h4
        · subst h4
          simp only [En]
          omega
      · rw [en_append, en_append]
        simp only [En]
        exact h10
      · rw [← h13, in_append, in_append]
        simp only [InR, or_false, or_assoc]
      · rcases List.mem_append.1 hr with hr | hr
        · rcases List.mem_append.1 hr with hr | hr
          · exact f1 r hr
          · rw [List.mem_singleton.1 hr]
            exact f3
        · exact f2 r hr
  | succ m ih =>
    intro i k A B a b low hi hk h1 h2 h3 h4 h5 h6 h7 h8 h9 h10 h11 h12 h13 f1 f2 f3 f4
    obtain ⟨k, rfl⟩ : ∃ q, k = q + 1 := ⟨k - 1, by omega⟩
    rw [hole_merged.l0, if_pos (by omega), if_pos (by omega), if_pos (by omega)]
    rw [drop_rd l i (by omega)] at h2 h11 h13 f4
    revert h2 h11 h13 f4
    generalize rd_T29 l (i : Int) = x
    intro h2 h11 h13 f4
    obtain ⟨g1, g2, g3⟩ := h2
    simp only [En] at h11
    simp only [InR] at h13
    have fx := f4 x List.mem_cons_self
    have f4' : ∀ r, r ∈ l.drop (i + 1) → F r.f0 := fun r hr => f4 r (List.mem_cons_of_mem _ hr)
    have hx := ch_le_en _ _ g3
    have eB : B ≠ [] → b < low := fun hB => by
      have := h8 hB
      cases B with
      | nil => exact absurd rfl hB
      | cons r t =>
        have h71 := h7.1
        have h72 := h7.2.1
        have := ch_le_en t r.f1 h7.2.2
        simp only [En] at *
        omega
    have hw : wrap64 ((i : Int) + 1) = ((i + 1 : Nat) : Int) := by rw [wrap64_id (by omega) (by omega)]; omega
    have ex : (⟨x.f0, x.f1⟩ : S29) = x := rfl
    rw [hw, ex]
    by_cases c1 : x.f1 < a
    · rw [if_pos c1, if_pos (by omega)]
      have hB : B = [] := by
        by_cases hB : B = []
        · exact hB
        · have := eB hB
          omega
      subst hB
      obtain ⟨d', l', e, p1, p2, p3, p4, p5, p6⟩ := ih (i + 1) k (A ++ [x]) [] a b x.f1 (by omega) (by omega) (by omega) g3 (by rw [ch_append]; exact ⟨h3, by simp only [Ch]; exact ⟨by omega, g2, True.intro⟩⟩) (.inl (by rw [en_append]; simp only [En]; omega)) (by rw [en_append]; simp only [En]; omega) h6 True.intro (fun h => absurd rfl h) h9 h10 h11 (by simp only [List.length_append, List.length_cons, List.length_nil] at *; omega) (fun y => by
        rw [← h13 y, in_append]
        simp only [InR, or_false, false_or]
        rw [or_assoc, or_left_comm (a := a ≤ y ∧ y < b)]) (fun r hr => by
        rcases List.mem_append.1 hr with hr | hr
        · exact f1 r hr
        · rw [List.mem_singleton.1 hr]
          exact fx) f2 f3 f4'
      exact ⟨d', l', e, p1, p2, p3, p4, p5, by simp only [List.length_append, List.length_cons, List.length_nil] at *; omega⟩
    · rw [if_neg c1]
      by_cases c2 : x.f0 > b
      · rw [if_pos c2, if_pos (by omega)]
        obtain ⟨d', l', e, p1, p2, p3, p4, p5, p6⟩ := ih (i + 1) k A (B ++ [x]) a b x.f1 (by omega) (by omega) (by omega) g3 h3 h4 (by omega) h6 (by
          rw [ch_append]
          refine ⟨h7, ?_⟩
          simp only [Ch]
          refine ⟨?_, g2, True.intro⟩
          by_cases hB : B = []
          · subst hB
            simp only [En]
            omega
          · rw [en_ne B _ b hB, h8 hB]
            exact g1) (fun _ => by rw [en_append]; rfl) h9 (by rw [en_append]; simp only [En]; omega) h11 (by simp only [List.length_append, List.length_cons, List.length_nil] at *; omega) (fun y => by
          rw [← h13 y, in_append]
          simp only [InR, or_false, or_assoc]) f1 (fun r hr => by
          rcases List.mem_append.1 hr with hr | hr
          · exact f2 r hr
          · rw [List.mem_singleton.1 hr]
            exact fx) f3 f4'
        exact ⟨d', l', e, p1, p2, p3, p4, p5, by simp only [List.length_append, List.length_cons, List.length_nil] at *; omega⟩
      · rw [if_neg c2, mn_eq, mx_eq]
        have hB : B = [] := by
          by_cases hB : B = []
          · exact hB
          · have := eB hB
            omega
        subst hB
        obtain ⟨d', l', e, p1, p2, p3, p4, p5, p6⟩ := ih (i + 1) k A [] (min a x.f0) (max b x.f1) x.f1 (by omega) (by omega) (by omega) g3 h3 (by rcases h4 with h4 | h4; exact .inl (by omega); exact .inr h4) (by omega) (by omega) True.intro (fun h => absurd rfl h) (by omega) (by simp only [En]; omega) h11 (by simp only [List.length_nil] at *; omega) (fun y => by
          rw [← h13 y]
          simp only [InR, false_or]
          by_cases q1 : InR A y
          · simp only [q1, true_or]
          · by_cases q2 : InR (l.drop (i + 1)) y
            · simp only [q2, or_true]
            · simp only [q1, q2, or_false, false_or]
              omega) f1 f2 (by
          by_cases c3 : a ≤ x.f0
          · rw [Int.min_eq_left c3]; exact f3
          · rw [Int.min_eq_right (by omega)]; exact fx) f4'
        exact ⟨d', l', e, p1, p2, p3, p4, p5, by omega⟩
theorem add_eq (k : Nat) (d : Int) (l : List S29) (a b : Int) (h : Okay d l) (h0 : 0 ≤ a) (h1 : a ≤ b) (h2 : b ≤ 1048576) (hk : 200 < k) :
    (hole_Add.f k d l a b = some (0, [], 9) ∧ l.length = 16 ∧ ∃ d2 l2, Ch d2 l2 ∧ 16 < l2.length ∧ (∀ r, r ∈ l2 → r.f0 = a ∨ ∃ q, q ∈ l ∧ q.f0 = r.f0) ∧ ∀ y, (y < d2 ∨ InR l2 y) ↔ ((y < d ∨ InR l y) ∨ (a ≤ y ∧ y < b))) ∨
    ∃ d' l', hole_Add.f k d l a b = some (d', l', 0) ∧ Okay d' l' ∧ d ≤ d' ∧ (∀ y, (y < d' ∨ InR l' y) ↔ ((y < d ∨ InR l y) ∨ (a ≤ y ∧ y < b))) ∧ ∀ r, r ∈ l' → r.f0 = a ∨ ∃ q, q ∈ l ∧ q.f0 = r.f0 := by
  unfold hole_Add.f
  rw [may_ok k d l h (by omega), Option.bind_some, if_pos rfl, if_neg (by omega), if_neg (by omega), if_neg (by omega)]
  obtain ⟨o1, o2, o3, o4⟩ := h
  by_cases c : a < b
  · rw [if_pos c]
    obtain ⟨d', l', e, p1, p2, p3, p4, p5, p6⟩ := merged_l0 d l (fun y => (a ≤ y ∧ y < b) ∨ InR l y) (fun z => z = a ∨ ∃ q, q ∈ l ∧ q.f0 = z) o4 o2 l.length 0 k [] [] a b d (by omega) (by omega) (Int.le_refl _) (by rw [List.drop_zero]; exact o1) True.intro (.inr rfl) (Int.le_refl _) c True.intro (fun h => absurd rfl h) h2 h2 (by rw [List.drop_zero]; exact o3) (by simp only [List.length_nil]; omega) (fun y => by simp only [InR, false_or, List.drop_zero]) (fun r hr => by cases hr) (fun r hr => by cases hr) (.inl rfl) (fun r hr => .inr ⟨r, by simpa using hr, rfl⟩)
    have e' : hole_merged.f k d l a b = some (d', l') := by unfold hole_merged.f; exact e
    simp only [List.length_nil] at p6
    rw [e', Option.bind_some]
    by_cases c2 : (l'.length : Int) > 16
    · rw [if_pos c2]
      exact .inl ⟨rfl, by omega, d', l', p1, by omega, p5, fun y => (p4 y).trans (by rw [or_assoc, or_comm (a := a ≤ y ∧ y < b)])⟩
    · rw [if_neg c2]
      show _ ∨ ∃ _ _, (api_Range_31.f l').bind _ = _ ∧ _
      rw [clone_eq l' (by omega), Option.bind_some]
      refine .inr ⟨d', l', rfl, ⟨p1, by omega, p2, by omega⟩, p3, fun y => (p4 y).trans ?_, p5⟩
      rw [or_assoc, or_comm (a := a ≤ y ∧ y < b)]
  · rw [if_neg c, if_neg (by omega), clone_eq l (by omega), Option.bind_some]
    refine .inr ⟨d, l, rfl, ⟨o1, o2, o3, o4⟩, Int.le_refl _, fun y => ?_, fun r hr => .inr ⟨r, hr, rfl⟩⟩
    constructor
    · exact fun h => .inl h
    · rintro (h | h)
      · exact h
      · omega
theorem range_eq (a b : Int) : packthreadkeep_RangeOf.f a b = some (a % 170, a % 170 + b % 30) := by
  unfold packthreadkeep_RangeOf.f
  rw [picked_eq _ _ (by decide) (by decide), Option.bind_some, picked_eq _ _ (by decide) (by decide), Option.bind_some, wrap64_id (by omega) (by omega)]
theorem heap_l0 (L : List Int) (n : Nat) (hn : n ≤ 24) (_hL : L.length ≤ 9000000000000000000) : ∀ (m i k : Nat) (d : Int) (l : List S29), 2 * n ≤ i + 2 * m → i ≤ 100 → 2 * m + 210 < k → Okay d l →
    ∃ d' l', packthreadkeep_Heap.l0 k L (n : Int) d l (i : Int) = some (d', l', true) ∧ Okay d' l' := by
  intro m
  induction m with
  | zero =>
    intro i k d l hi hi2 hk h
    obtain ⟨k, rfl⟩ : ∃ q, k = q + 2 := ⟨k - 2, by omega⟩
    refine ⟨d, l, ?_, h⟩
    have e : (decide ((i : Int) < wrap64 (2 * (n : Int)))) = false := by
      rw [wrap64_id (by omega) (by omega), decide_eq_false_iff_not]
      omega
    rw [packthreadkeep_Heap.l0, e]
    have e2 : packthreadkeep_Heap.j1 (k + 1) L (n : Int) d l (i : Int) false = some (d, l, true) := by
      rw [packthreadkeep_Heap.j1, if_neg (by decide), may_ok k d l h (by omega), Option.bind_some]
    rw [e2, ite_self]
  | succ m ih =>
    intro i k d l hi hi2 hk h
    obtain ⟨k, rfl⟩ : ∃ q, k = q + 2 := ⟨k - 2, by omega⟩
    have e2 : packthreadkeep_Heap.j1 (k + 1) L (n : Int) d l (i : Int) false = some (d, l, true) := by
      rw [packthreadkeep_Heap.j1, if_neg (by decide), may_ok k d l h (by omega), Option.bind_some]
    have hw1 : wrap64 ((i : Int) + 1) = ((i + 1 : Nat) : Int) := by rw [wrap64_id (by omega) (by omega)]; omega
    have hw2 : wrap64 ((i : Int) + 2) = ((i + 2 : Nat) : Int) := by rw [wrap64_id (by omega) (by omega)]; omega
    rw [packthreadkeep_Heap.l0, hw1]
    by_cases c1 : ((i + 1 : Nat) : Int) < (L.length : Int)
    · rw [if_pos c1]
      by_cases c2 : (i : Int) < wrap64 (2 * (n : Int))
      · have c2' := c2
        rw [wrap64_id (by omega) (by omega)] at c2'
        rw [decide_eq_true c2, packthreadkeep_Heap.j1, if_pos rfl, if_pos (by omega), if_pos (by omega), hw1, if_pos (by omega), if_pos c1, range_eq, Option.bind_some, hw2]
        show ∃ d' l', (hole_Add.f k d l (rd L (i : Int) % 170) (rd L (i : Int) % 170 + rd L ((i + 1 : Nat) : Int) % 30)).bind _ = _ ∧ _
        rcases add_eq k d l (rd L (i : Int) % 170) (rd L (i : Int) % 170 + rd L ((i + 1 : Nat) : Int) % 30) h (by omega) (by omega) (by omega) (by omega) with ⟨e, _⟩ | ⟨d2, l2, e, ho, _⟩
        · rw [e, Option.bind_some]
          show ∃ d' l', (if (9 : Int) = 9 then packthreadkeep_Heap.l0 k L n d l ((i + 2 : Nat) : Int) else _) = _ ∧ _
          rw [if_pos rfl]
          exact ih (i + 2) k d l (by omega) (by omega) (by omega) h
        · rw [e, Option.bind_some]
          show ∃ d' l', (if (0 : Int) = 9 then _ else if (0 : Int) = 0 then packthreadkeep_Heap.l0 k L n d2 l2 ((i + 2 : Nat) : Int) else _) = _ ∧ _
          rw [if_neg (by decide), if_pos rfl]
          exact ih (i + 2) k d2 l2 (by omega) (by omega) (by omega) ho
      · rw [decide_eq_false c2, e2]
        exact ⟨d, l, rfl, h⟩
    · rw [if_neg c1]
      by_cases c2 : (i : Int) < wrap64 (2 * (n : Int))
      · exact ⟨d, l, e2, h⟩
      · exact ⟨d, l, e2, h⟩
theorem okay_nil : Okay 0 [] := ⟨True.intro, Int.le_refl _, by simp only [En]; omega, by simp⟩
theorem heap_eq (k : Nat) (L : List Int) (n : Nat) (hn : n ≤ 24) (hL : L.length ≤ 9000000000000000000) (hk : 300 < k) : ∃ d l, packthreadkeep_Heap.f k L (n : Int) = some (d, l, true) ∧ Okay d l := by
  unfold packthreadkeep_Heap.f
  exact heap_l0 L n hn hL n 0 k 0 [] (by omega) (by omega) (by omega) okay_nil
theorem has_l0 (l : List S29) (y : Int) (hL : l.length ≤ 100) : ∀ (m i k : Nat), i + m = l.length → m < k → ∃ b, packthreadkeep_has.l0 k l y (i : Int) = some b ∧ (b = true ↔ InR (l.drop i) y) := by
  intro m
  induction m with
  | zero =>
    intro i k hi hk
    obtain ⟨k, rfl⟩ : ∃ q, k = q + 1 := ⟨k - 1, by omega⟩
    rw [packthreadkeep_has.l0, if_neg (by omega), List.drop_eq_nil_of_le (by omega)]
    exact ⟨false, rfl, by simp [InR]⟩
  | succ m ih =>
    intro i k hi hk
    obtain ⟨k, rfl⟩ : ∃ q, k = q + 1 := ⟨k - 1, by omega⟩
    have hw1 : wrap64 ((i : Int) + 1) = ((i + 1 : Nat) : Int) := by rw [wrap64_id (by omega) (by omega)]; omega
    rw [packthreadkeep_has.l0, if_pos (by omega), if_pos (by omega), drop_rd l i (by omega), hw1]
    obtain ⟨b, e, hb⟩ := ih (i + 1) k (by omega) (by omega)
    simp only [InR]
    by_cases c1 : (rd_T29 l (i : Int)).f0 ≤ y
    · rw [if_pos c1]
      by_cases c2 : y < (rd_T29 l (i : Int)).f1
      · rw [if_pos c2]
        exact ⟨true, rfl, by simp [c1, c2]⟩
      · rw [if_neg c2]
        exact ⟨b, e, by rw [hb]; simp [c2]⟩
    · rw [if_neg c1]
      exact ⟨b, e, by rw [hb]; simp [c1]⟩
theorem has_eq (k : Nat) (d : Int) (l : List S29) (y : Int) (hL : l.length ≤ 100) (hk : 101 < k) : ∃ b, packthreadkeep_has.f k d l y = some b ∧ (b = true ↔ (y < d ∨ InR l y)) := by
  unfold packthreadkeep_has.f
  by_cases c : y < d
  · rw [if_pos c]
    exact ⟨true, rfl, by simp [c]⟩
  · rw [if_neg c]
    obtain ⟨b, e, hb⟩ := has_l0 l y hL l.length 0 k (by omega) (by omega)
    exact ⟨b, e, by rw [hb, List.drop_zero]; simp [c]⟩

def cntR (r : S29) : List S29 → Nat
  | [] => 0
  | q :: t => (if (q.f0 == r.f0 && (q.f1 == r.f1)) = true then 1 else 0) + cntR r t
theorem ch_mem : ∀ (l : List S29) (lo : Int) (r : S29), Ch lo l → r ∈ l → lo < r.f0 ∧ r.f0 < r.f1
  | [], _, _, _, h => by simp at h
  | a :: l, lo, r, h, hr => by
    obtain ⟨h1, h2, h3⟩ := h
    rcases List.mem_cons.1 hr with rfl | hr
    · exact ⟨h1, h2⟩
    · have := ch_mem l a.f1 r h3 hr
      omega
theorem cnt_low : ∀ (l : List S29) (lo : Int) (r : S29), Ch lo l → r.f0 ≤ lo → cntR r l = 0
  | [], _, _, _, _ => rfl
  | a :: l, lo, r, h, hr => by
    obtain ⟨h1, h2, h3⟩ := h
    have e : (a.f0 == r.f0) = false := beq_eq_false_iff_ne.mpr (by omega)
    rw [cntR, e, cnt_low l a.f1 r h3 (by omega)]
    rfl
theorem cnt_one : ∀ (l : List S29) (lo : Int) (r : S29), Ch lo l → r ∈ l → cntR r l = 1
  | [], _, _, _, h => by simp at h
  | a :: l, lo, r, h, hr => by
    obtain ⟨h1, h2, h3⟩ := h
    rw [cntR]
    rcases List.mem_cons.1 hr with rfl | hr
    · rw [cnt_low l r.f1 r h3 (by omega)]
      simp
    · have := ch_mem l a.f1 r h3 hr
      have e : (a.f0 == r.f0) = false := beq_eq_false_iff_ne.mpr (by omega)
      rw [e, cnt_one l a.f1 r h3 hr]
      rfl
theorem ch_nodup : ∀ (l : List S29) (lo : Int), Ch lo l → l.Nodup
  | [], _, _ => List.nodup_nil
  | a :: l, lo, h => by
    obtain ⟨h1, h2, h3⟩ := h
    refine List.nodup_cons.2 ⟨fun hm => ?_, ch_nodup l a.f1 h3⟩
    have := ch_mem l a.f1 a h3 hm
    omega
theorem inR_iff (x : Int) (r : S29) : inR x r = true ↔ r.f0 ≤ x ∧ x < r.f1 := by unfold inR; simp
theorem ch_same : ∀ (l : List S29) (lo x : Int) (r q : S29), Ch lo l → r ∈ l → q ∈ l → inR x r = true → inR x q = true → r = q
  | [], _, _, _, _, _, h, _, _, _ => by simp at h
  | a :: l, lo, x, r, q, h, hr, hq, e1, e2 => by
    obtain ⟨h1, h2, h3⟩ := h
    rw [inR_iff] at e1 e2
    rcases List.mem_cons.1 hr with rfl | hr'
    · rcases List.mem_cons.1 hq with rfl | hq'
      · rfl
      · have := ch_mem l r.f1 q h3 hq'
        omega
    · rcases List.mem_cons.1 hq with rfl | hq'
      · have := ch_mem l q.f1 r h3 hr'
        omega
      · exact ch_same l a.f1 x r q h3 hr' hq' ((inR_iff x r).2 e1) ((inR_iff x q).2 e2)
theorem in_mem : ∀ (l : List S29) (x : Int), InR l x → ∃ r, r ∈ l ∧ inR x r = true
  | [], _, h => h.elim
  | a :: l, x, h => by
    rcases h with h | h
    · exact ⟨a, List.mem_cons_self .., (inR_iff x a).2 h⟩
    · obtain ⟨r, h1, h2⟩ := in_mem l x h
      exact ⟨r, List.mem_cons_of_mem _ h1, h2⟩
structure Told (l s : List S29) (x : Int) : Prop where
  mem : ∀ i : Nat, i < s.length → rd_T29 s (i : Int) ∈ l
  ne : ∀ i j : Nat, i < s.length → j < i → rd_T29 s (j : Int) ≠ rd_T29 s (i : Int)
  out : ∀ i : Nat, i < s.length → 0 < i → ¬ ((rd_T29 s (i : Int)).f0 ≤ x ∧ x < (rd_T29 s (i : Int)).f1)
  first : InR l x → 0 < s.length → (rd_T29 s 0).f0 ≤ x ∧ x < (rd_T29 s 0).f1
theorem told_sack (l : List S29) (lo x n : Int) (h : Ch lo l) : Told l (sackL x l n) x ∧ (sackL x l n).length = min n.toNat l.length := by
  obtain ⟨O, hO⟩ : ∃ O, l.reverse.filter (inR x) = O := ⟨_, rfl⟩
  obtain ⟨R, hR⟩ : ∃ R, l.reverse.filter (fun r => !inR x r) = R := ⟨_, rfl⟩
  have hp : (O ++ R).Perm l := by
    rw [← hO, ← hR]
    exact (List.filter_append_perm (inR x) l.reverse).trans (List.reverse_perm l)
  have hnd : (O ++ R).Nodup := hp.nodup_iff.2 (ch_nodup l lo h)
  have hOm : ∀ r, r ∈ O → inR x r = true := fun r hr => by rw [← hO] at hr; exact (List.mem_filter.1 hr).2
  have hRm : ∀ r, r ∈ R → inR x r = false := fun r hr => by rw [← hR] at hr; have := (List.mem_filter.1 hr).2; simpa using this
  have hs : sackL x l n = (O ++ R).take n.toNat := by unfold sackL; rw [hO, hR]
  rw [hs]
  have hlen : ((O ++ R).take n.toNat).length = min n.toNat l.length := by rw [List.length_take, hp.length_eq]
  have hrd : ∀ i : Nat, i < ((O ++ R).take n.toNat).length → ∃ h : i < (O ++ R).length, rd_T29 ((O ++ R).take n.toNat) (i : Int) = (O ++ R)[i] := fun i hi => by
    have hi2 : i < (O ++ R).length := by rw [List.length_take] at hi; omega
    refine ⟨hi2, ?_⟩
    unfold rd_T29
    rw [Int.toNat_natCast, List.getD_eq_getElem?_getD, List.getElem?_eq_getElem hi, List.getElem_take]
    rfl
  refine ⟨⟨fun i hi => ?_, fun i j hi hj => ?_, fun i hi h0 => ?_, fun hi h0 => ?_⟩, hlen⟩
  · obtain ⟨h2, e⟩ := hrd i hi
    rw [e]
    exact hp.mem_iff.1 (List.getElem_mem h2)
  · obtain ⟨h2, e⟩ := hrd i hi
    obtain ⟨h3, e3⟩ := hrd j (by omega)
    rw [e, e3]
    exact List.pairwise_iff_getElem.1 hnd j i h3 h2 hj
  · obtain ⟨h2, e⟩ := hrd i hi
    rw [e, ← inR_iff]
    intro hin
    have h0' : 0 < (O ++ R).length := by omega
    by_cases c : i < O.length
    · have a1 : (O ++ R)[0] = O[0] := List.getElem_append_left (by omega)
      have a2 := hOm _ (List.getElem_mem (l := O) (n := 0) (by omega))
      rw [← a1] at a2
      have := ch_same l lo x _ _ h (hp.mem_iff.1 (List.getElem_mem h0')) (hp.mem_iff.1 (List.getElem_mem h2)) a2 hin
      exact List.pairwise_iff_getElem.1 hnd 0 i h0' h2 h0 this
    · have a1 : (O ++ R)[i] = R[i - O.length]'(by rw [List.length_append] at h2; omega) := List.getElem_append_right (by omega)
      rw [a1, hRm _ (List.getElem_mem _)] at hin
      exact absurd hin (by simp)
  · obtain ⟨r, h1, h2⟩ := in_mem l x hi
    have hro : r ∈ O := by rw [← hO]; exact List.mem_filter.2 ⟨List.mem_reverse.2 h1, h2⟩
    have hpos : 0 < O.length := List.length_pos_of_mem hro
    obtain ⟨h3, e⟩ := hrd 0 h0
    have e' : rd_T29 ((O ++ R).take n.toNat) 0 = (O ++ R)[0] := e
    rw [e', ← inR_iff, show (O ++ R)[0] = O[0] from List.getElem_append_left hpos]
    exact hOm _ (List.getElem_mem hpos)
theorem sf_l1 (d : Int) (l s : List S29) (x n : Int) (i : Nat) (hi : i < s.length) (hs : s.length ≤ 100) (hl : l.length ≤ 100) : ∀ (m j k : Nat) (f : Nat), j + m = l.length → f + m ≤ 200 → packthreadkeep_SacksFirst.l1 (k + m + 1) d l x n s (i : Int) (f : Int) (j : Int) = packthreadkeep_SacksFirst.l2 k d l x n s (i : Int) ((f + cntR (rd_T29 s (i : Int)) (l.drop j) : Nat) : Int) 0 := by
  intro m
  induction m with
  | zero =>
    intro j k f h1 h2
    rw [packthreadkeep_SacksFirst.l1, if_neg (by omega), List.drop_eq_nil_of_le (by omega)]
    rfl
  | succ m ih =>
    intro j k f h1 h2
    rw [show k + (m + 1) + 1 = (k + m + 1) + 1 by omega, packthreadkeep_SacksFirst.l1, if_pos (by omega), if_pos (by omega), if_pos (by omega), if_pos (by omega), drop_rd l j (by omega), cntR, wrap64_id (x := (j : Int) + 1) (by omega) (by omega), show (j : Int) + 1 = ((j + 1 : Nat) : Int) by omega]
    by_cases c : ((rd_T29 l (j : Int)).f0 == (rd_T29 s (i : Int)).f0 && ((rd_T29 l (j : Int)).f1 == (rd_T29 s (i : Int)).f1)) = true
    · rw [if_pos c, if_pos c, wrap64_id (x := (f : Int) + 1) (by omega) (by omega), show (f : Int) + 1 = ((f + 1 : Nat) : Int) by omega, ih (j + 1) k (f + 1) (by omega) (by omega), show f + 1 + cntR (rd_T29 s (i : Int)) (l.drop (j + 1)) = f + (1 + cntR (rd_T29 s (i : Int)) (l.drop (j + 1))) by omega]
    · rw [if_neg c, if_neg c, ih (j + 1) k f (by omega) (by omega), Nat.zero_add]
theorem sf_l2 (d : Int) (l s : List S29) (x n : Int) (i : Nat) (hi : i < s.length) (hs : s.length ≤ 100) (ht : Told l s x) : ∀ (m j k : Nat), j + m = i → packthreadkeep_SacksFirst.l2 (k + m + 1) d l x n s (i : Int) 1 (j : Int) = packthreadkeep_SacksFirst.l0 k d l x n s ((i + 1 : Nat) : Int) := by
  intro m
  induction m with
  | zero =>
    intro j k h1
    rw [packthreadkeep_SacksFirst.l2, if_neg (by omega), if_pos rfl, wrap64_id (x := (i : Int) + 1) (by omega) (by omega), show (i : Int) + 1 = ((i + 1 : Nat) : Int) by omega]
    by_cases c : (i : Int) > 0
    · rw [if_pos c, if_pos (by omega), if_pos (by omega)]
      have := ht.out i hi (by omega)
      by_cases c1 : (rd_T29 s (i : Int)).f0 ≤ x
      · rw [if_pos c1, if_neg (fun c2 => this ⟨c1, c2⟩)]
      · rw [if_neg c1]
    · rw [if_neg c]
  | succ m ih =>
    intro j k h1
    have hne : ¬ (((rd_T29 s (j : Int)).f0 == (rd_T29 s (i : Int)).f0 && ((rd_T29 s (j : Int)).f1 == (rd_T29 s (i : Int)).f1)) = true) := fun c => by
      rw [Bool.and_eq_true, beq_iff_eq, beq_iff_eq] at c
      refine ht.ne i j hi (by omega) ?_
      rcases h : rd_T29 s (j : Int) with ⟨p, q⟩
      rcases h' : rd_T29 s (i : Int) with ⟨p', q'⟩
      rw [h, h'] at c
      obtain ⟨c1, c2⟩ := c
      simp only at c1 c2
      rw [c1, c2]
    rw [show k + (m + 1) + 1 = (k + m + 1) + 1 by omega, packthreadkeep_SacksFirst.l2, if_pos (by omega), if_pos (by omega), if_pos (by omega), if_pos (by omega), if_pos (by omega), if_neg hne, wrap64_id (x := (j : Int) + 1) (by omega) (by omega), show (j : Int) + 1 = ((j + 1 : Nat) : Int) by omega]
    exact ih (j + 1) k (by omega)
theorem sf_l0 (d : Int) (l s : List S29) (x n : Int) (hs : s.length ≤ 100) (hl : l.length ≤ 100) (hd : Ch d l) (ht : Told l s x) (hn : 0 < n → InR l x → 0 < s.length) (hx : 0 ≤ x) : ∀ (m i k : Nat), i + m = s.length → 300 * m + 200 ≤ k → packthreadkeep_SacksFirst.l0 k d l x n s (i : Int) = some true := by
  intro m
  induction m with
  | zero =>
    intro i k h1 h2
    obtain ⟨k, rfl⟩ : ∃ q, k = q + 1 := ⟨k - 1, by omega⟩
    rw [packthreadkeep_SacksFirst.l0, if_neg (by omega)]
    by_cases c : n > 0
    · rw [if_pos c]
      by_cases c1 : x ≥ d
      · rw [if_pos c1]
        obtain ⟨b, e, hb⟩ := has_eq k d l x hl (by omega)
        rw [e, Option.bind_some]
        by_cases c2 : b = true
        · rw [if_pos c2]
          have hin : InR l x := by
            rcases hb.1 c2 with h | h
            · omega
            · exact h
          have h0 := hn c hin
          have hf := ht.first hin h0
          rw [if_pos (by omega), if_pos hf.1, decide_eq_true hf.2]
        · rw [if_neg c2]
      · rw [if_neg c1]
    · rw [if_neg c]
  | succ m ih =>
    intro i k h1 h2
    obtain ⟨q, hq⟩ : ∃ q, k = (q + i + 1 + l.length + 1) + 1 := ⟨k - i - l.length - 3, by omega⟩
    subst hq
    have hi : i < s.length := by omega
    have e1 := sf_l1 d l s x n i hi hs hl l.length 0 (q + i + 1) 0 (by omega) (by omega)
    rw [List.drop_zero, cnt_one l d _ hd (ht.mem i hi)] at e1
    have e2 := sf_l2 d l s x n i hi hs ht i 0 q (by omega)
    rw [packthreadkeep_SacksFirst.l0, if_pos (by omega)]
    exact e1.trans (e2.trans (ih (i + 1) q (by omega) (by omega)))
theorem SacksFirst : packthreadkeep_SacksFirst.Pure := by
  intro l0 a1 a2 hm _ _ _ _
  obtain ⟨k, hk⟩ : ∃ k, 60000 ≤ k := ⟨60000, Nat.le_refl _⟩
  have hL : l0.length ≤ 9000000000000000000 := by
    simp only [maxLen] at hm
    omega
  obtain ⟨d, l, e, o⟩ := heap_eq (k + 1) l0 20 (by omega) hL (by omega)
  have hl := o.2.2.2
  have p0 := Int.emod_nonneg a1 (show (220 : Int) ≠ 0 by omega)
  have q0 := Int.emod_nonneg a2 (show (17 : Int) ≠ 0 by omega)
  have q1 := Int.emod_lt_of_pos a2 (show (0 : Int) < 17 by omega)
  refine ⟨k + 1, ?_⟩
  unfold packthreadkeep_SacksFirst.f
  rw [show packthreadkeep_Heap.f (k + 1) l0 20 = some (d, l, true) from e, Option.bind_some, picked_eq _ _ (by decide) (by decide), Option.bind_some, picked_eq _ _ (by decide) (by decide), Option.bind_some]
  generalize a1 % 220 = x at *
  generalize a2 % 17 = n at *
  obtain ⟨ht, hlen⟩ := told_sack l d x n o.1
  have hs : hole_Sacks.f d l x n = some (sackL x l n, 0) := by
    unfold hole_Sacks.f
    rw [if_pos ⟨by omega, q0, by omega, may_ok 2000 d l o (by omega)⟩]
  rw [show hole_Sacks.f (d, l, true).1 (d, l, true).2.1 x n = some (sackL x l n, 0) from hs, Option.bind_some]
  generalize sackL x l n = s at *
  show (if true = true then if (0 : Int) = 0 then packthreadkeep_SacksFirst.j0 (k + 1) d l x n s ((s.length : Int) != mn n (l.length : Int)) else _ else _) = some true
  rw [if_pos rfl, if_pos rfl, packthreadkeep_SacksFirst.j0]
  have hne : ((s.length : Int) != mn n (l.length : Int)) = false := by
    rw [mn_eq, bne_eq_false_iff_eq, hlen]
    omega
  rw [hne, if_neg (by decide)]
  exact sf_l0 d l s x n (by omega) (by omega) o.1 ht (fun h1 h2 => by
    obtain ⟨r, h3, _⟩ := in_mem l x h2
    have := List.length_pos_of_mem h3
    omega) p0 s.length 0 k (by omega) (by omega)

end Go.Proofs.Ytlgehakaedokeaa.Pure
