/- Proved: for every input the law HoleGapsAll answers true: gaps are what is missing; filled up, one by one, in whatever order, all is done. Condition: none (every list of integers, every number). -/
import Derived.Test.YtlgehakaedokeaaPHoleGapsAllx4
namespace Go.Proofs.Ytlgehakaedokeaa.Pure
open Go.RowKit Go.Proofs.Ytlgehakaedokeaa.PHoleGapsAll Go.Proofs.YtlgehakaedokeaaW.PrintWords Go.Proofs.YtlgehakaedokeaaW.PrintLast
set_option linter.unusedVariables false

theorem wrap64_id {x : Int} (h0 : -9223372036854775808 ≤ x) (h1 : x ≤ 9223372036854775807) : wrap64 x = x := by unfold wrap64; omega

theorem picked_eq (a n : Int) (h0 : 0 < n) (h1 : n ≤ 1000000000000) : packthreadkeep_Picked.f a n = some (a % n) := by
  unfold packthreadkeep_Picked.f
  rw [if_neg (by omega)]
  have hm := Int.tmod_eq_emod (a := a) (b := n)
  have hlo := Int.emod_nonneg a (show n ≠ 0 by omega)
  have hhi := Int.emod_lt_of_pos a h0
  by_cases hc : 0 ≤ a ∨ n ∣ a
  · rw [if_pos hc] at hm
    have e : a.tmod n = a % n := by rw [hm]; simp
    rw [e, if_neg (by omega)]
  · rw [if_neg hc] at hm
    have e : a.tmod n = a % n - n := by rw [hm]; congr 1; omega
    rw [e, if_pos (by omega), wrap64_id (by omega) (by omega)]
    congr 1; omega

def Ch : Int → List S29 → Prop
  | _, [] => True
  | lo, r :: t => lo < r.f0 ∧ r.f0 < r.f1 ∧ Ch r.f1 t
def En : Int → List S29 → Int
  | lo, [] => lo
  | _, r :: t => En r.f1 t
def InR : List S29 → Int → Prop
  | [], _ => False
  | r :: t, y => (r.f0 ≤ y ∧ y < r.f1) ∨ InR t y
theorem ch_append : ∀ (a b : List S29) (lo : Int), Ch lo (a ++ b) ↔ Ch lo a ∧ Ch (En lo a) b
  | [], b, lo => by simp [Ch, En]
  | r :: t, b, lo => by
    rw [List.cons_append]
    simp only [Ch, En]
    rw [ch_append t b r.f1]
    constructor
    · rintro ⟨h1, h2, h3, h4⟩
      exact ⟨⟨h1, h2, h3⟩, h4⟩
    · rintro ⟨⟨h1, h2, h3⟩, h4⟩
      exact ⟨h1, h2, h3, h4⟩
theorem en_append : ∀ (a b : List S29) (lo : Int), En lo (a ++ b) = En (En lo a) b
  | [], b, lo => rfl
  | r :: t, b, lo => by
    rw [List.cons_append]
    simp only [En]
    exact en_append t b r.f1
theorem in_append : ∀ (a b : List S29) (y : Int), InR (a ++ b) y ↔ InR a y ∨ InR b y
  | [], b, y => by simp [InR]
  | r :: t, b, y => by
    rw [List.cons_append]
    simp only [InR]
    rw [in_append t b y, or_assoc]
theorem ch_le_en : ∀ (l : List S29) (lo : Int), Ch lo l → lo ≤ En lo l
  | [], lo, _ => Int.le_refl _
  | r :: t, lo, h => by
    obtain ⟨h1, h2, h3⟩ := h
    have := ch_le_en t r.f1 h3
    simp only [En]
    omega
theorem ch_in : ∀ (l : List S29) (lo y : Int), Ch lo l → InR l y → lo < y ∧ y < En lo l
  | [], lo, y, _, h => h.elim
  | r :: t, lo, y, h, hi => by
    obtain ⟨h1, h2, h3⟩ := h
    have e := ch_le_en t r.f1 h3
    simp only [En]
    rcases hi with hi | hi
    · omega
    · have := ch_in t r.f1 y h3 hi
      omega
theorem ch_low : ∀ (l : List S29) (lo lo' : Int), Ch lo l → lo' ≤ lo → Ch lo' l
  | [], _, _, _, _ => True.intro
  | r :: t, lo, lo', h, hl => ⟨by have := h.1; omega, h.2⟩
theorem en_ne : ∀ (l : List S29) (lo lo' : Int), l ≠ [] → En lo l = En lo' l
  | [], _, _, h => absurd rfl h
  | _ :: _, _, _, _ => rfl
theorem drop_rd (l : List S29) (i : Nat) (h : i < l.length) : l.drop i = rd_T29 l (i : Int) :: l.drop (i + 1) := by
  rw [List.drop_eq_getElem_cons h]
  congr 1
  unfold rd_T29
  simp [h]
theorem ch_count : ∀ (l : List S29) (lo : Int) (fs : List Int), Ch lo l → (∀ r, r ∈ l → r.f0 ∈ fs) → l.length ≤ fs.length
  | [], _, _, _, _ => Nat.zero_le _
  | r :: t, lo, fs, h, hf => by
    obtain ⟨h1, h2, h3⟩ := h
    have hm := hf r List.mem_cons_self
    have far : ∀ (t : List S29) (lo : Int), Ch lo t → ∀ q, q ∈ t → lo < q.f0 := by
      intro t
      induction t with
      | nil => intro lo _ q hq; cases hq
      | cons a t ih =>
        intro lo ha q hq
        rcases List.mem_cons.1 hq with rfl | hq
        · exact ha.1
        · have := ih a.f1 ha.2.2 q hq
          have := ha.1
          have := ha.2.1
          omega
    have := ch_count t r.f1 (fs.erase r.f0) h3 (fun q hq => by
      have hq1 := far t r.f1 h3 q hq
      exact (List.mem_erase_of_ne (by omega)).2 (hf q (List.mem_cons_of_mem _ hq)))
    have hp : 0 < fs.length := List.length_pos_of_mem hm
    rw [List.length_erase_of_mem hm] at this
    rw [List.length_cons]
    omega
def Okay (d : Int) (l : List S29) : Prop := Ch d l ∧ 0 ≤ d ∧ En d l ≤ 1048576 ∧ l.length ≤ 16
theorem may_l0 (d : Int) (x1 l : List S29) (hL : l.length ≤ 100) : ∀ (m i k : Nat) (lo : Int), i + m = l.length → m < k →
    ∃ b, hole_May.l0 k d x1 lo l (l.length : Int) (i : Int) = some b ∧ (b = true ↔ (Ch lo (l.drop i) ∧ 0 ≤ d ∧ En lo (l.drop i) ≤ 1048576 ∧ d ≤ 1048576 ∧ x1.length ≤ 16)) := by
  intro m
  induction m with
  | zero =>
    intro i k lo hi hk
    obtain ⟨k, rfl⟩ : ∃ q, k = q + 1 := ⟨k - 1, by omega⟩
    rw [hole_May.l0, if_neg (by omega), List.drop_eq_nil_of_le (by omega)]
    simp only [Ch, En]
    by_cases h1 : d ≥ 0
    · rw [if_pos h1]
      by_cases h2 : lo ≤ 1048576
      · rw [if_pos h2]
        by_cases h3 : d ≤ 1048576
        · rw [if_pos h3]
          exact ⟨_, rfl, by rw [decide_eq_true_iff]; exact ⟨fun h => ⟨True.intro, by omega, by omega, by omega, by omega⟩, fun h => by have := h.2.2.2.2; omega⟩⟩
        · rw [if_neg h3]
          exact ⟨_, rfl, by simp; omega⟩
      · rw [if_neg h2]
        exact ⟨_, rfl, by simp; omega⟩
    · rw [if_neg h1]
      exact ⟨_, rfl, by simp; omega⟩
  | succ m ih =>
    intro i k lo hi hk
    obtain ⟨k, rfl⟩ : ∃ q, k = q + 1 := ⟨k - 1, by omega⟩
    rw [hole_May.l0, if_pos (by omega), if_pos (by omega), if_pos (by omega), drop_rd l i (by omega)]
    generalize rd_T29 l (i : Int) = r
    simp only [Ch, En]
    by_cases h1 : r.f0 ≤ lo
    · rw [if_pos h1]
      exact ⟨_, rfl, by simp; omega⟩
    · rw [if_neg h1]
      by_cases h2 : r.f0 ≥ r.f1
      · rw [if_pos h2]
        exact ⟨_, rfl, by simp; omega⟩
      · rw [if_neg h2, wrap64_id (by omega) (by omega), show ((i : Int) + 1) = ((i + 1 : Nat) : Int) by omega]
        obtain ⟨b, e, hb⟩ := ih (i + 1) k r.f1 (by omega) (by omega)
        refine ⟨b, e, hb.trans ⟨fun h => ⟨⟨by omega, by omega, h.1⟩, h.2⟩, fun h => ⟨h.1.2.2, h.2⟩⟩⟩
theorem may_eq (k : Nat) (d : Int) (l : List S29) (hL : l.length ≤ 100) (hk : 101 < k) : ∃ b, hole_May.f k d l = some b ∧ (b = true ↔ Okay d l) := by
  obtain ⟨b, e, hb⟩ := may_l0 d l l hL l.length 0 k d (by omega) (by omega)
  refine ⟨b, by unfold hole_May.f; exact e, hb.trans ?_⟩
  rw [List.drop_zero]
  constructor
  · rintro ⟨h1, h2, h3, _, h5⟩
    exact ⟨h1, h2, h3, h5⟩
  · rintro ⟨h1, h2, h3, h5⟩
    have := ch_le_en l d h1
    exact ⟨h1, h2, h3, by omega, h5⟩
theorem may_ok (k : Nat) (d : Int) (l : List S29) (h : Okay d l) (hk : 101 < k) : hole_May.f k d l = some true := by
  obtain ⟨b, e, hb⟩ := may_eq k d l (by have := h.2.2.2; omega) hk
  rw [e, hb.2 h]
theorem clone_eq (l : List S29) (h : l.length ≤ 100) : api_Range_31.f l = some l := by
  unfold api_Range_31.f
  rw [Option.bind_some, if_pos (by simp; omega), List.nil_append]
theorem concat3 (k : Nat) (A B : List S29) (x : S29) (hA : A.length ≤ 100) (hB : B.length ≤ 100) (hk : 10 ≤ k) : api_Range_36.f k [A, [x], B] = some (A ++ [x] ++ B) := by
  obtain ⟨k, rfl⟩ : ∃ q, k = q + 10 := ⟨k - 10, by omega⟩
  have r0 : rd_L2 [A, [x], B] 0 = A := rfl
  have r1 : rd_L2 [A, [x], B] 1 = [x] := rfl
  have r2 : rd_L2 [A, [x], B] 2 = B := rfl
  have l3 : (([A, [x], B] : List (List S29)).length : Int) = 3 := rfl
  have l1 : ([x].length : Int) = 1 := rfl
  have w1 : wrap64 (0 + (A.length : Int)) = A.length := by rw [wrap64_id (by omega) (by omega)]; omega
  have w2 : wrap64 ((A.length : Int) + 1) = A.length + 1 := wrap64_id (by omega) (by omega)
  have w3 : wrap64 ((A.length : Int) + 1 + B.length) = A.length + 1 + B.length := wrap64_id (by omega) (by omega)
  have i1 : wrap64 (0 + 1) = 1 := wrap64_id (by decide) (by decide)
  have i2 : wrap64 (1 + 1) = 2 := wrap64_id (by decide) (by decide)
  have i3 : wrap64 (2 + 1) = 3 := wrap64_id (by decide) (by decide)
  unfold api_Range_36.f
  rw [l3, api_Range_36.l0, if_pos (by decide), if_pos (by decide), if_pos (by rw [l3]; decide), r0, w1, if_neg (by omega), i1]
  rw [api_Range_36.l0, if_pos (by decide), if_pos (by decide), if_pos (by rw [l3]; decide), r1, l1, w2, if_neg (by omega), i2]
  rw [api_Range_36.l0, if_pos (by decide), if_pos (by decide), if_pos (by rw [l3]; decide), r2, w3, if_neg (by omega), i3]
  rw [api_Range_36.l0, if_neg (by decide), if_pos (by omega), if_pos (by omega), l3]
  rw [api_Range_36.l1, if_pos (by decide), if_pos (by decide), if_pos (by rw [l3]; decide), r0, if_pos (by simp; omega), i1, List.nil_append]
  rw [api_Range_36.l1, if_pos (by decide), if_pos (by decide), if_pos (by rw [l3]; decide), r1, if_pos (by simp; omega), i2]
  rw [api_Range_36.l1, if_pos (by decide), if_pos (by decide), if_pos (by rw [l3]; decide), r2, if_pos (by simp; omega), i3]
  rw [api_Range_36.l1, if_neg (by decide)]
theorem mn_eq (a b : Int) : mn a b = min a b := by unfold mn; omega
theorem mx_eq (a b : Int) : mx a b = max a b := by unfold mx; omega
theorem merged_l0 (d : Int) (l : List S29) (S : Int → Prop) (F : Int → Prop) (hl : l.length ≤ 16) (_hd : 0 ≤ d) : ∀ (m i k : Nat) (A B : List S29) (a b low : Int), i + m = l.length → m + 10 < k →
    d ≤ low → Ch low (l.drop i) → Ch d A → (En d A < a ∨ A = []) → En d A ≤ low → a < b → Ch (max b d) B → (B ≠ [] → En b B = low) → b ≤ 1048576 → En b B ≤ 1048576 → En low (l.drop i) ≤ 1048576 →
    A.length + B.length + (l.length - i) ≤ 16 → (∀ y, (InR A y ∨ (a ≤ y ∧ y < b) ∨ InR B y ∨ InR (l.drop i) y) ↔ S y) → (∀ r, r ∈ A → F r.f0) → (∀ r, r ∈ B → F r.f0) → F a → (∀ r, r ∈ l.drop i → F r.f0) →
    ∃ d' l', hole_merged.l0 k d A B l (l.length : Int) (i : Int) a b = some (d', l') ∧ Ch d' l' ∧ En d' l' ≤ 1048576 ∧ d ≤ d' ∧ (∀ y, (y < d' ∨ InR l' y) ↔ (y < d ∨ S y)) ∧ (∀ r, r ∈ l' → F r.f0) ∧ l'.length ≤ A.length + B.length + (l.length - i) + 1 := by
  intro m
  induction m with
  | zero =>
    intro i k A B a b low hi hk h1 h2 h3 h4 h5 h6 h7 h8 h9 h10 h11 h12 h13 f1 f2 f3 f4
    obtain ⟨k, rfl⟩ : ∃ q, k = q + 1 := ⟨k - 1, by omega⟩
    rw [hole_merged.l0, if_neg (by omega)]
    have hnil : l.drop i = [] := List.drop_eq_nil_of_le (by omega)
    have hlow := ch_le_en _ _ h2
    rw [hnil] at h13
    simp only [InR, or_false] at h13
    by_cases c : a ≤ d
    · rw [if_pos c, mx_eq]
      have hA : A = [] := by
        rcases h4 with h4 | h4
        · have := ch_le_en A d h3
          omega
        · exact h4
      subst hA
      simp only [InR, false_or] at h13
      refine ⟨max d b, B, rfl, ch_low _ _ _ h7 (by omega), ?_, by omega, fun y => ?_, f2, by omega⟩
      · by_cases hB : B = []
        · subst hB
          simp only [En]
          omega
        · rw [en_ne B (max d b) b hB]
          exact h10
      · rw [← h13]
        by_cases hb : InR B y
        · simp only [hb, or_true]
        · simp only [hb, or_false]
          omega
    · rw [if_neg c, concat3 _ _ _ _ (by omega) (by omega) (by omega), Option.bind_some]
      refine ⟨d, A ++ [⟨a, b⟩] ++ B, rfl, ?_, ?_, Int.le_refl _, fun y => ?_, fun r hr => ?_, by simp; omega⟩
      · rw [ch_append, ch_append, en_append]
        simp only [Ch, En]
        refine ⟨⟨h3, ?_, h6, True.intro⟩, ch_low _ _ _ h7 (by omega)⟩
        rcases h4 with h4 | h4
        · exact h4
        · subst h4
          simp only [En]
          omega
      · rw [en_append, en_append]
        simp only [En]
        exact h10
      · rw [← h13, in_append, in_append]
        simp only [InR, or_false, or_assoc]
      · rcases List.mem_append.1 hr with hr | hr
        · rcases List.mem_append.1 hr with hr | hr
          · exact f1 r hr
          · rw [List.mem_singleton.1 hr]
            exact f3
        · exact f2 r hr
  | succ m ih =>
    intro i k A B a b low hi hk h1 h2 h3 h4 h5 h6 h7 h8 h9 h10 h11 h12 h13 f1 f2 f3 f4
    obtain ⟨k, rfl⟩ : ∃ q, k = q + 1 := ⟨k - 1, by omega⟩
    rw [hole_merged.l0, if_pos (by omega), if_pos (by omega), if_pos (by omega)]
    rw [drop_rd l i (by omega)] at h2 h11 h13 f4
    revert h2 h11 h13 f4
    generalize rd_T29 l (i : Int) = x
    intro h2 h11 h13 f4
    obtain ⟨g1, g2, g3⟩ := h2
    simp only [En] at h11
    simp only [InR] at h13
    have fx := f4 x List.mem_cons_self
    have f4' : ∀ r, r ∈ l.drop (i + 1) → F r.f0 := fun r hr => f4 r (List.mem_cons_of_mem _ hr)
    have hx := ch_le_en _ _ g3
    have eB : B ≠ [] → b < low := fun hB => by
      have := h8 hB
      cases B with
      | nil => exact absurd rfl hB
      | cons r t =>
        have h71 := h7.1
        have h72 := h7.2.1
        have := ch_le_en t r.f1 h7.2.2
        simp only [En] at *
        omega
    have hw : wrap64 ((i : Int) + 1) = ((i + 1 : Nat) : Int) := by rw [wrap64_id (by omega) (by omega)]; omega
    have ex : (⟨x.f0, x.f1⟩ : S29) = x := rfl
    rw [hw, ex]
    by_cases c1 : x.f1 < a
    · rw [if_pos c1, if_pos (by omega)]
      have hB : B = [] := by
        by_cases hB : B = []
        · exact hB
        · have := eB hB
          omega
      subst hB
      obtain ⟨d', l', e, p1, p2, p3, p4, p5, p6⟩ := ih (i + 1) k (A ++ [x]) [] a b x.f1 (by omega) (by omega) (by omega) g3 (by rw [ch_append]; exact ⟨h3, by simp only [Ch]; exact ⟨by omega, g2, True.intro⟩⟩) (.inl (by rw [en_append]; simp only [En]; omega)) (by rw [en_append]; simp only [En]; omega) h6 True.intro (fun h => absurd rfl h) h9 h10 h11 (by simp only [List.length_append, List.length_cons, List.length_nil] at *; omega) (fun y => by
        rw [← h13 y, in_append]
        simp only [InR, or_false, false_or]
        rw [or_assoc, or_left_comm (a := a ≤ y ∧ y < b)]) (fun r hr => by
        rcases List.mem_append.1 hr with hr | hr
        · exact f1 r hr
        · rw [List.mem_singleton.1 hr]
          exact fx) f2 f3 f4'
      exact ⟨d', l', e, p1, p2, p3, p4, p5, by simp only [List.length_append, List.length_cons, List.length_nil] at *; omega⟩
    · rw [if_neg c1]
      by_cases c2 : x.f0 > b
      · rw [if_pos c2, if_pos (by omega)]
        obtain ⟨d', l', e, p1, p2, p3, p4, p5, p6⟩ := ih (i + 1) k A (B ++ [x]) a b x.f1 (by omega) (by omega) (by omega) g3 h3 h4 (by omega) h6 (by
          rw [ch_append]
          refine ⟨h7, ?_⟩
          simp only [Ch]
          refine ⟨?_, g2, True.intro⟩
          by_cases hB : B = []
          · subst hB
            simp only [En]
            omega
          · rw [en_ne B _ b hB, h8 hB]
            exact g1) (fun _ => by rw [en_append]; rfl) h9 (by rw [en_append]; simp only [En]; omega) h11 (by simp only [List.length_append, List.length_cons, List.length_nil] at *; omega) (fun y => by
          rw [← h13 y, in_append]
          simp only [InR, or_false, or_assoc]) f1 (fun r hr => by
          rcases List.mem_append.1 hr with hr | hr
          · exact f2 r hr
          · rw [List.mem_singleton.1 hr]
            exact fx) f3 f4'
        exact ⟨d', l', e, p1, p2, p3, p4, p5, by simp only [List.length_append, List.length_cons, List.length_nil] at *; omega⟩
      · rw [if_neg c2, mn_eq, mx_eq]
        have hB : B = [] := by
          by_cases hB : B = []
          · exact hB
          · have := eB hB
            omega
        subst hB
        obtain ⟨d', l', e, p1, p2, p3, p4, p5, p6⟩ := ih (i + 1) k A [] (min a x.f0) (max b x.f1) x.f1 (by omega) (by omega) (by omega) g3 h3 (by rcases h4 with h4 | h4; exact .inl (by omega); exact .inr h4) (by omega) (by omega) True.intro (fun h => absurd rfl h) (by omega) (by simp only [En]; omega) h11 (by simp only [List.length_nil] at *; omega) (fun y => by
          rw [← h13 y]
          simp only [InR, false_or]
          by_cases q1 : InR A y
          · simp only [q1, true_or]
          · by_cases q2 : InR (l.drop (i + 1)) y
            · simp only [q2, or_true]
            · simp only [q1, q2, or_false, false_or]
              omega) f1 f2 (by
          by_cases c3 : a ≤ x.f0
          · rw [Int.min_eq_left c3]; exact f3
          · rw [Int.min_eq_right (by omega)]; exact fx) f4'
        exact ⟨d', l', e, p1, p2, p3, p4, p5, by omega⟩
theorem add_eq (k : Nat) (d : Int) (l : List S29) (a b : Int) (h : Okay d l) (h0 : 0 ≤ a) (h1 : a ≤ b) (h2 : b ≤ 1048576) (hk : 200 < k) :
    (hole_Add.f k d l a b = some (0, [], 9) ∧ l.length = 16 ∧ ∃ d2 l2, Ch d2 l2 ∧ 16 < l2.length ∧ (∀ r, r ∈ l2 → r.f0 = a ∨ ∃ q, q ∈ l ∧ q.f0 = r.f0) ∧ ∀ y, (y < d2 ∨ InR l2 y) ↔ ((y < d ∨ InR l y) ∨ (a ≤ y ∧ y < b))) ∨
    ∃ d' l', hole_Add.f k d l a b = some (d', l', 0) ∧ Okay d' l' ∧ d ≤ d' ∧ (∀ y, (y < d' ∨ InR l' y) ↔ ((y < d ∨ InR l y) ∨ (a ≤ y ∧ y < b))) ∧ ∀ r, r ∈ l' → r.f0 = a ∨ ∃ q, q ∈ l ∧ q.f0 = r.f0 := by
  unfold hole_Add.f
  rw [may_ok k d l h (by omega), Option.bind_some, if_pos rfl, if_neg (by omega), if_neg (by omega), if_neg (by omega)]
  obtain ⟨o1, o2, o3, o4⟩ := h
  by_cases c : a < b
  · rw [if_pos c]
    obtain ⟨d', l', e, p1, p2, p3, p4, p5, p6⟩ := merged_l0 d l (fun y => (a ≤ y ∧ y < b) ∨ InR l y) (fun z => z = a ∨ ∃ q, q ∈ l ∧ q.f0 = z) o4 o2 l.length 0 k [] [] a b d (by omega) (by omega) (Int.le_refl _) (by rw [List.drop_zero]; exact o1) True.intro (.inr rfl) (Int.le_refl _) c True.intro (fun h => absurd rfl h) h2 h2 (by rw [List.drop_zero]; exact o3) (by simp only [List.length_nil]; omega) (fun y => by simp only [InR, false_or, List.drop_zero]) (fun r hr => by cases hr) (fun r hr => by cases hr) (.inl rfl) (fun r hr => .inr ⟨r, by simpa using hr, rfl⟩)
    have e' : hole_merged.f k d l a b = some (d', l') := by unfold hole_merged.f; exact e
    simp only [List.length_nil] at p6
    rw [e', Option.bind_some]
    by_cases c2 : (l'.length : Int) > 16
    · rw [if_pos c2]
      exact .inl ⟨rfl, by omega, d', l', p1, by omega, p5, fun y => (p4 y).trans (by rw [or_assoc, or_comm (a := a ≤ y ∧ y < b)])⟩
    · rw [if_neg c2]
      show _ ∨ ∃ _ _, (api_Range_31.f l').bind _ = _ ∧ _
      rw [clone_eq l' (by omega), Option.bind_some]
      refine .inr ⟨d', l', rfl, ⟨p1, by omega, p2, by omega⟩, p3, fun y => (p4 y).trans ?_, p5⟩
      rw [or_assoc, or_comm (a := a ≤ y ∧ y < b)]
  · rw [if_neg c, if_neg (by omega), clone_eq l (by omega), Option.bind_some]
    refine .inr ⟨d, l, rfl, ⟨o1, o2, o3, o4⟩, Int.le_refl _, fun y => ?_, fun r hr => .inr ⟨r, hr, rfl⟩⟩
    constructor
    · exact fun h => .inl h
    · rintro (h | h)
      · exact h
      · omega
theorem range_eq (a b : Int) : packthreadkeep_RangeOf.f a b = some (a % 170, a % 170 + b % 30) := by
  unfold packthreadkeep_RangeOf.f
  rw [picked_eq _ _ (by decide) (by decide), Option.bind_some, picked_eq _ _ (by decide) (by decide), Option.bind_some, wrap64_id (by omega) (by omega)]
theorem heap_l0 (L : List Int) (n : Nat) (hn : n ≤ 24) (_hL : L.length ≤ 9000000000000000000) : ∀ (m i k : Nat) (d : Int) (l : List S29), 2 * n ≤ i + 2 * m → i ≤ 100 → 2 * m + 210 < k → Okay d l →
    ∃ d' l', packthreadkeep_Heap.l0 k L (n : Int) d l (i : Int) = some (d', l', true) ∧ Okay d' l' := by
  intro m
  induction m with
  | zero =>
    intro i k d l hi hi2 hk h
    obtain ⟨k, rfl⟩ : ∃ q, k = q + 2 := ⟨k - 2, by omega⟩
    refine ⟨d, l, ?_, h⟩
    have e : (decide ((i : Int) < wrap64 (2 * (n : Int)))) = false := by
      rw [wrap64_id (by omega) (by omega), decide_eq_false_iff_not]
      omega
    rw [packthreadkeep_Heap.l0, e]
    have e2 : packthreadkeep_Heap.j1 (k + 1) L (n : Int) d l (i : Int) false = some (d, l, true) := by
      rw [packthreadkeep_Heap.j1, if_neg (by decide), may_ok k d l h (by omega), Option.bind_some]
    rw [e2, ite_self]
  | succ m ih =>
    intro i k d l hi hi2 hk h
    obtain ⟨k, rfl⟩ : ∃ q, k = q + 2 := ⟨k - 2, by omega⟩
    have e2 : packthreadkeep_Heap.j1 (k + 1) L (n : Int) d l (i : Int) false = some (d, l, true) := by
      rw [packthreadkeep_Heap.j1, if_neg (by decide), may_ok k d l h (by omega), Option.bind_some]
    have hw1 : wrap64 ((i : Int) + 1) = ((i + 1 : Nat) : Int) := by rw [wrap64_id (by omega) (by omega)]; omega
    have hw2 : wrap64 ((i : Int) + 2) = ((i + 2 : Nat) : Int) := by rw [wrap64_id (by omega) (by omega)]; omega
    rw [packthreadkeep_Heap.l0, hw1]
    by_cases c1 : ((i + 1 : Nat) : Int) < (L.length : Int)
    · rw [if_pos c1]
      by_cases c2 : (i : Int) < wrap64 (2 * (n : Int))
      · have c2' := c2
        rw [wrap64_id (by omega) (by omega)] at c2'
        rw [decide_eq_true c2, packthreadkeep_Heap.j1, if_pos rfl, if_pos (by omega), if_pos (by omega), hw1, if_pos (by omega), if_pos c1, range_eq, Option.bind_some, hw2]
        show ∃ d' l', (hole_Add.f k d l (rd L (i : Int) % 170) (rd L (i : Int) % 170 + rd L ((i + 1 : Nat) : Int) % 30)).bind _ = _ ∧ _
        rcases add_eq k d l (rd L (i : Int) % 170) (rd L (i : Int) % 170 + rd L ((i + 1 : Nat) : Int) % 30) h (by omega) (by omega) (by omega) (by omega) with ⟨e, _⟩ | ⟨d2, l2, e, ho, _⟩
        · rw [e, Option.bind_some]
          show ∃ d' l', (if (9 : Int) = 9 then packthreadkeep_Heap.l0 k L n d l ((i + 2 : Nat) : Int) else _) = _ ∧ _
          rw [if_pos rfl]
          exact ih (i + 2) k d l (by omega) (by omega) (by omega) h
        · rw [e, Option.bind_some]
          show ∃ d' l', (if (0 : Int) = 9 then _ else if (0 : Int) = 0 then packthreadkeep_Heap.l0 k L n d2 l2 ((i + 2 : Nat) : Int) else _) = _ ∧ _
          rw [if_neg (by decide), if_pos rfl]
          exact ih (i + 2) k d2 l2 (by omega) (by omega) (by omega) ho
      · rw [decide_eq_false c2, e2]
        exact ⟨d, l, rfl, h⟩
    · rw [if_neg c1]
      by_cases c2 : (i : Int) < wrap64 (2 * (n : Int))
      · exact ⟨d, l, e2, h⟩
      · exact ⟨d, l, e2, h⟩
theorem okay_nil : Okay 0 [] := ⟨True.intro, Int.le_refl _, by simp only [En]; omega, by simp⟩
theorem heap_eq (k : Nat) (L : List Int) (n : Nat) (hn : n ≤ 24) (hL : L.length ≤ 9000000000000000000) (hk : 300 < k) : ∃ d l, packthreadkeep_Heap.f k L (n : Int) = some (d, l, true) ∧ Okay d l := by
  unfold packthreadkeep_Heap.f
  exact heap_l0 L n hn hL n 0 k 0 [] (by omega) (by omega) (by omega) okay_nil
theorem has_l0 (l : List S29) (y : Int) (hL : l.length ≤ 100) : ∀ (m i k : Nat), i + m = l.length → m < k → ∃ b, packthreadkeep_has.l0 k l y (i : Int) = some b ∧ (b = true ↔ InR (l.drop i) y) := by
  intro m
  induction m with
  | zero =>
    intro i k hi hk
    obtain ⟨k, rfl⟩ : ∃ q, k = q + 1 := ⟨k - 1, by omega⟩
    rw [packthreadkeep_has.l0, if_neg (by omega), List.drop_eq_nil_of_le (by omega)]
    exact ⟨false, rfl, by simp [InR]⟩
  | succ m ih =>
    intro i k hi hk
    obtain ⟨k, rfl⟩ : ∃ q, k = q + 1 := ⟨k - 1, by omega⟩
    have hw1 : wrap64 ((i : Int) + 1) = ((i + 1 : Nat) : Int) := by rw [wrap64_id (by omega) (by omega)]; omega
    rw [packthreadkeep_has.l0, if_pos (by omega), if_pos (by omega), drop_rd l i (by omega), hw1]
    obtain ⟨b, e, hb⟩ := ih (i + 1) k (by omega) (by omega)
    simp only [InR]
    by_cases c1 : (rd_T29 l (i : Int)).f0 ≤ y
    · rw [if_pos c1]
      by_cases c2 : y < (rd_T29 l (i : Int)).f1
      · rw [if_pos c2]
        exact ⟨true, rfl, by simp [c1, c2]⟩
      · rw [if_neg c2]
        exact ⟨b, e, by rw [hb]; simp [c2]⟩
    · rw [if_neg c1]
      exact ⟨b, e, by rw [hb]; simp [c1]⟩
theorem has_eq (k : Nat) (d : Int) (l : List S29) (y : Int) (hL : l.length ≤ 100) (hk : 101 < k) : ∃ b, packthreadkeep_has.f k d l y = some b ∧ (b = true ↔ (y < d ∨ InR l y)) := by
  unfold packthreadkeep_has.f
  by_cases c : y < d
  · rw [if_pos c]
    exact ⟨true, rfl, by simp [c]⟩
  · rw [if_neg c]
    obtain ⟨b, e, hb⟩ := has_l0 l y hL l.length 0 k (by omega) (by omega)
    exact ⟨b, e, by rw [hb, List.drop_zero]; simp [c]⟩

theorem canon_l : ∀ (l l' : List S29) (lo : Int), Ch lo l → Ch lo l' → (∀ y, InR l y ↔ InR l' y) → l = l'
  | [], [], _, _, _, _ => rfl
  | [], r :: t, lo, _, h', hs => ((hs r.f0).2 (.inl ⟨Int.le_refl _, h'.2.1⟩)).elim
  | r :: t, [], lo, h, _, hs => ((hs r.f0).1 (.inl ⟨Int.le_refl _, h.2.1⟩)).elim
  | r :: t, r' :: t', lo, h, h', hs => by
    obtain ⟨h1, h2, h3⟩ := h
    obtain ⟨g1, g2, g3⟩ := h'
    have a1 := (hs r.f0).1 (.inl ⟨Int.le_refl _, h2⟩)
    have a2 := (hs r'.f0).2 (.inl ⟨Int.le_refl _, g2⟩)
    have e0 : r.f0 = r'.f0 := by
      have b1 : r'.f0 ≤ r.f0 := by
        rcases a1 with a1 | a1
        · exact a1.1
        · have := (ch_in t' r'.f1 _ g3 a1).1
          omega
      have b2 : r.f0 ≤ r'.f0 := by
        rcases a2 with a2 | a2
        · exact a2.1
        · have := (ch_in t r.f1 _ h3 a2).1
          omega
      omega
    have e1 : r.f1 = r'.f1 := by
      by_cases c : r.f1 < r'.f1
      · rcases (hs r.f1).2 (.inl ⟨by omega, c⟩) with q | q
        · omega
        · have := (ch_in t r.f1 _ h3 q).1
          omega
      · by_cases c : r'.f1 < r.f1
        · rcases (hs r'.f1).1 (.inl ⟨by omega, c⟩) with q | q
          · omega
          · have := (ch_in t' r'.f1 _ g3 q).1
            omega
        · omega
    have er : r = r' := by
      cases r
      cases r'
      simp only at e0 e1
      rw [e0, e1]
    subst er
    rw [canon_l t t' r.f1 h3 g3 (fun y => by
      constructor
      · intro q
        have := (ch_in t r.f1 _ h3 q).1
        rcases (hs y).1 (.inr q) with z | z
        · omega
        · exact z
      · intro q
        have := (ch_in t' r.f1 _ g3 q).1
        rcases (hs y).2 (.inr q) with z | z
        · omega
        · exact z)]
theorem canon (d d' : Int) (l l' : List S29) (h : Ch d l) (h' : Ch d' l') (hs : ∀ y, (y < d ∨ InR l y) ↔ (y < d' ∨ InR l' y)) : d = d' ∧ l = l' := by
  have e : d = d' := by
    by_cases c : d < d'
    · rcases (hs d).2 (.inl c) with q | q
      · omega
      · have := (ch_in l d d h q).1
        omega
    · by_cases c : d' < d
      · rcases (hs d').1 (.inl c) with q | q
        · omega
        · have := (ch_in l' d' d' h' q).1
          omega
      · omega
  subst e
  refine ⟨rfl, canon_l l l' d h h' fun y => ?_⟩
  constructor
  · intro q
    have := (ch_in l d y h q).1
    rcases (hs y).1 (.inr q) with z | z
    · omega
    · exact z
  · intro q
    have := (ch_in l' d y h' q).1
    rcases (hs y).2 (.inr q) with z | z
    · omega
    · exact z

def Gp : Int → List S29 → List S29
  | _, [] => []
  | lo, r :: t => ⟨lo, r.f0⟩ :: Gp r.f1 t
theorem gp_len : ∀ (l : List S29) (lo : Int), (Gp lo l).length = l.length
  | [], _ => rfl
  | r :: t, lo => by simp only [Gp, List.length_cons, gp_len t r.f1]
theorem gp_mem : ∀ (l : List S29) (lo : Int), Ch lo l → ∀ q, q ∈ Gp lo l → q.f0 < q.f1 ∧ lo ≤ q.f0 ∧ q.f1 ≤ En lo l ∧ ¬ InR l q.f0 ∧ (q.f0 - 1 < lo ∨ InR l (q.f0 - 1))
  | [], lo, _, q, hq => by cases hq
  | r :: t, lo, h, q, hq => by
    have hh := h
    obtain ⟨h1, h2, h3⟩ := h
    have he := ch_le_en t r.f1 h3
    simp only [Gp] at hq
    simp only [En]
    rcases List.mem_cons.1 hq with rfl | hq
    · refine ⟨h1, Int.le_refl _, by show r.f0 ≤ _; omega, fun hi => ?_, .inl (by show lo - 1 < lo; omega)⟩
      have := (ch_in (r :: t) lo _ hh hi).1
      simp only at this
      omega
    · obtain ⟨g1, g2, g3, g4, g5⟩ := gp_mem t r.f1 h3 q hq
      refine ⟨g1, by omega, g3, ?_, ?_⟩
      · simp only [InR]
        rintro (hi | hi)
        · omega
        · exact g4 hi
      · simp only [InR]
        rcases g5 with g5 | g5
        · exact .inr (.inl (by omega))
        · exact .inr (.inr g5)
theorem gp_cover : ∀ (l : List S29) (lo y : Int), Ch lo l → (y < En lo l ↔ ((y < lo ∨ InR l y) ∨ InR (Gp lo l) y))
  | [], lo, y, _ => by simp [En, InR, Gp]
  | r :: t, lo, y, h => by
    obtain ⟨h1, h2, h3⟩ := h
    have e := gp_cover t r.f1 y h3
    simp only [En, InR, Gp]
    rw [e]
    by_cases c1 : InR t y
    · simp only [c1, or_true, true_or]
    · by_cases c2 : InR (Gp r.f1 t) y
      · simp only [c2, or_true]
      · simp only [c1, c2, or_false]
        omega
theorem en_last : ∀ (l : List S29) (lo : Int), l ≠ [] → (rd_T29 l ((l.length : Int) - 1)).f1 = En lo l := by
  intro l
  induction l with
  | nil => intro lo h; exact absurd rfl h
  | cons r t ih =>
    intro lo _
    cases t with
    | nil => rfl
    | cons s u =>
      have := ih r.f1 (by simp)
      simp only [En] at this ⊢
      rw [← this]
      unfold rd_T29
      congr 1
      rw [List.length_cons (a := r), show (((s :: u).length + 1 : Nat) : Int) - 1 = (((s :: u).length - 1 + 1 : Nat) : Int) by simp, show (((s :: u).length : Nat) : Int) - 1 = (((s :: u).length - 1 : Nat) : Int) by simp]
      rw [Int.toNat_natCast, Int.toNat_natCast]
      rfl
theorem gaps_l0 (l : List S29) (hl : l.length ≤ 100) : ∀ (m i k : Nat) (lo : Int) (A : List S29), i + m = l.length → m < k → A.length = i → hole_Gaps.l0 k lo A l (l.length : Int) (i : Int) = some (A ++ Gp lo (l.drop i), 0) := by
  intro m
  induction m with
  | zero =>
    intro i k lo A hi hk hA
    obtain ⟨k, rfl⟩ : ∃ q, k = q + 1 := ⟨k - 1, by omega⟩
    rw [hole_Gaps.l0, if_neg (by omega), List.drop_eq_nil_of_le (by omega)]
    simp [Gp]
  | succ m ih =>
    intro i k lo A hi hk hA
    obtain ⟨k, rfl⟩ : ∃ q, k = q + 1 := ⟨k - 1, by omega⟩
    have hw1 : wrap64 ((i : Int) + 1) = ((i + 1 : Nat) : Int) := by rw [wrap64_id (by omega) (by omega)]; omega
    rw [hole_Gaps.l0, if_pos (by omega), if_pos (by omega), if_pos (by omega), if_pos (by omega), hw1, drop_rd l i (by omega), ih (i + 1) k _ _ (by omega) (by omega) (by simp [hA])]
    simp [Gp]
theorem gaps_eq (k : Nat) (d : Int) (l : List S29) (h : Okay d l) (hk : 101 < k) : hole_Gaps.f k d l = some (Gp d l, 0) := by
  unfold hole_Gaps.f
  rw [may_ok k d l h hk, Option.bind_some, if_pos rfl, show (0 : Int) = ((0 : Nat) : Int) from rfl]
  rw [gaps_l0 l (by have := h.2.2.2; omega) l.length 0 k d [] (by omega) (by have := h.2.2.2; omega) rfl]
  rfl
theorem ch_from : ∀ (l : List S29) (lo : Int), Ch lo l → ∀ r, r ∈ l → lo < r.f0 ∧ InR l r.f0 ∧ ¬ InR l (r.f0 - 1)
  | [], _, _, r, hr => by cases hr
  | s :: t, lo, h, r, hr => by
    obtain ⟨h1, h2, h3⟩ := h
    rcases List.mem_cons.1 hr with rfl | hr
    · refine ⟨h1, .inl ⟨Int.le_refl _, h2⟩, ?_⟩
      simp only [InR]
      rintro (hi | hi)
      · omega
      · have := (ch_in t _ _ h3 hi).1
        omega
    · obtain ⟨g1, g2, g3⟩ := ch_from t s.f1 h3 r hr
      refine ⟨by omega, .inr g2, ?_⟩
      simp only [InR]
      rintro (hi | hi)
      · omega
      · exact g3 hi
theorem in_mem : ∀ (l : List S29) (y : Int), InR l y ↔ ∃ r, r ∈ l ∧ r.f0 ≤ y ∧ y < r.f1
  | [], y => by simp [InR]
  | r :: t, y => by
    simp only [InR]
    rw [in_mem t y]
    constructor
    · rintro (h | ⟨q, h1, h2⟩)
      · exact ⟨r, List.mem_cons_self, h⟩
      · exact ⟨q, List.mem_cons_of_mem _ h1, h2⟩
    · rintro ⟨q, h1, h2⟩
      rcases List.mem_cons.1 h1 with rfl | h1
      · exact .inl h2
      · exact .inr ⟨q, h1, h2⟩
theorem few (d : Int) (o : List S29) (ho : Okay d o) (T : S29 → Prop) (hT : ∀ q, T q → q ∈ Gp d o) (d2 : Int) (l2 : List S29) (hc : Ch d2 l2) (hs : ∀ y, (y < d2 ∨ InR l2 y) ↔ ((y < d ∨ InR o y) ∨ ∃ q, T q ∧ q.f0 ≤ y ∧ y < q.f1)) : l2.length ≤ 16 := by
  have := ch_count l2 d2 (o.map (·.f0)) hc (fun r hr => by
    obtain ⟨g1, g2, g3⟩ := ch_from l2 d2 hc r hr
    have n1 : ¬ ((r.f0 - 1 < d ∨ InR o (r.f0 - 1)) ∨ ∃ q, T q ∧ q.f0 ≤ r.f0 - 1 ∧ r.f0 - 1 < q.f1) := by
      rw [← hs]
      rintro (h | h)
      · omega
      · exact g3 h
    rcases (hs r.f0).1 (.inr g2) with (h | h) | ⟨q, h1, h2, h3⟩
    · exact absurd (.inl (.inl (by omega))) n1
    · obtain ⟨q, h1, h2, h3⟩ := (in_mem o r.f0).1 h
      by_cases c : q.f0 = r.f0
      · exact List.mem_map.2 ⟨q, h1, c⟩
      · exact absurd (.inl (.inr ((in_mem o _).2 ⟨q, h1, by omega, by omega⟩))) n1
    · by_cases c : q.f0 = r.f0
      · have := (gp_mem o d ho.1 q (hT q h1)).2.2.2.2
        rw [c] at this
        exact absurd (.inl this) n1
      · exact absurd (.inr ⟨q, h1, by omega, by omega⟩) n1)
  rw [List.length_map] at this
  have := ho.2.2.2
  omega
theorem turn_back (n t c : Int) (h0 : 0 ≤ t) (h1 : t < n) (h2 : 0 ≤ c) (h3 : c < n) : ∃ j : Nat, (j : Int) < n ∧ ((j : Int) + t) % n = c := by
  by_cases h : t ≤ c
  · refine ⟨(c - t).toNat, by omega, ?_⟩
    rw [show (((c - t).toNat : Nat) : Int) + t = c by omega, Int.emod_eq_of_lt h2 h3]
  · refine ⟨(c - t + n).toNat, by omega, ?_⟩
    rw [show (((c - t + n).toNat : Nat) : Int) + t = c + n by omega, Int.add_emod_right, Int.emod_eq_of_lt h2 h3]
theorem fill_l0 (x1 d : Int) (o : List S29) (ho : Okay d o) : ∀ (m i k : Nat) (d1 : Int) (l1 : List S29), i + m = o.length → 2 * m + 300 < k → Okay d1 l1 →
    (∀ y, (y < d1 ∨ InR l1 y) ↔ ((y < d ∨ InR o y) ∨ ∃ q, (∃ j : Nat, j < i ∧ q = rd_T29 (Gp d o) (((j : Int) + x1 % (o.length : Int)) % (o.length : Int))) ∧ q.f0 ≤ y ∧ y < q.f1)) →
    packthreadkeep_HoleGapsAll.l0 k x1 d o (Gp d o) (En d o) (o.length : Int) d1 l1 (i : Int) = some true := by
  have hlen := gp_len o d
  have hcap := ho.2.2.2
  have memg : ∀ c : Int, 0 ≤ c → c < (o.length : Int) → rd_T29 (Gp d o) c ∈ Gp d o := by
    intro c h0 h1
    obtain ⟨q, rfl⟩ := Int.eq_ofNat_of_zero_le h0
    unfold rd_T29
    rw [Int.toNat_natCast, List.getD_eq_getElem?_getD, List.getElem?_eq_getElem (by omega), Option.getD_some]
    exact List.getElem_mem _
  intro m
  induction m with
  | zero =>
    intro i k d1 l1 hi hk h1 hs
    obtain ⟨k, rfl⟩ : ∃ q, k = q + 1 := ⟨k - 1, by omega⟩
    rw [packthreadkeep_HoleGapsAll.l0, if_neg (by omega)]
    have hc : d1 = En d o ∧ l1 = [] := by
      refine canon d1 (En d o) l1 [] h1.1 True.intro fun y => (hs y).trans ?_
      rw [gp_cover o d y ho.1]
      simp only [InR, or_false]
      constructor
      · rintro (h | ⟨q, ⟨j, h1, rfl⟩, h2⟩)
        · exact .inl h
        · exact .inr ((in_mem _ _).2 ⟨_, memg _ (Int.emod_nonneg _ (by omega)) (Int.emod_lt_of_pos _ (by omega)), h2⟩)
      · rintro (h | h)
        · exact .inl h
        · obtain ⟨q, h1, h2⟩ := (in_mem _ _).1 h
          obtain ⟨c, hc, rfl⟩ := List.mem_iff_getElem.1 h1
          rw [hlen] at hc
          obtain ⟨j, hj, e⟩ := turn_back (o.length : Int) (x1 % (o.length : Int)) (c : Int) (Int.emod_nonneg _ (by omega)) (Int.emod_lt_of_pos _ (by omega)) (by omega) (by omega)
          refine .inr ⟨_, ⟨j, by omega, ?_⟩, h2⟩
          rw [e]
          unfold rd_T29
          rw [Int.toNat_natCast, List.getD_eq_getElem?_getD, List.getElem?_eq_getElem (by omega), Option.getD_some]
    obtain ⟨rfl, rfl⟩ := hc
    rw [if_pos rfl, if_pos (show (((([] : List S29).length : Nat) : Int) = 0) from rfl), may_ok k _ _ h1 (by omega), Option.bind_some]
  | succ m ih =>
    intro i k d1 l1 hi hk h1 hs
    obtain ⟨k, rfl⟩ : ∃ q, k = q + 2 := ⟨k - 2, by omega⟩
    have hw1 : wrap64 ((i : Int) + 1) = ((i + 1 : Nat) : Int) := by rw [wrap64_id (by omega) (by omega)]; omega
    have g0 := Int.emod_nonneg x1 (show (o.length : Int) ≠ 0 by omega)
    have g1 := Int.emod_lt_of_pos x1 (show 0 < (o.length : Int) by omega)
    have ih' := ih (i + 1) k
    rw [packthreadkeep_HoleGapsAll.l0, if_pos (by omega), picked_eq _ _ (by omega) (by omega), Option.bind_some, if_neg (by omega), wrap64_id (x := (i : Int) + x1 % (o.length : Int)) (by omega) (by omega)]
    rw [Int.tmod_eq_emod_of_nonneg (by omega)]
    have g2 := Int.emod_nonneg ((i : Int) + x1 % (o.length : Int)) (show (o.length : Int) ≠ 0 by omega)
    have g3 := Int.emod_lt_of_pos ((i : Int) + x1 % (o.length : Int)) (show 0 < (o.length : Int) by omega)
    have hq := memg _ g2 g3
    rw [if_pos g2, if_pos (by rw [hlen]; exact g3)]
    generalize hc : rd_T29 (Gp d o) (((i : Int) + x1 % (o.length : Int)) % (o.length : Int)) = q at *
    obtain ⟨q1, q2, q3, q4, q5⟩ := gp_mem o d ho.1 q hq
    obtain ⟨b, e, hb⟩ := has_eq (k + 1) d o q.f0 (by omega) (by omega)
    have hbf : b = false := by
      cases b
      · rfl
      · rcases hb.1 rfl with h | h
        · omega
        · exact absurd h q4
    subst hbf
    rw [if_neg (by omega), e, Option.bind_some, packthreadkeep_HoleGapsAll.j3, if_neg (by decide), hw1]
    have hstep : ∀ (d2 : Int) (l2 : List S29), (∀ y, (y < d2 ∨ InR l2 y) ↔ ((y < d1 ∨ InR l1 y) ∨ (q.f0 ≤ y ∧ y < q.f1))) → ∀ y, (y < d2 ∨ InR l2 y) ↔ ((y < d ∨ InR o y) ∨ ∃ q, (∃ j : Nat, j < i + 1 ∧ q = rd_T29 (Gp d o) (((j : Int) + x1 % (o.length : Int)) % (o.length : Int))) ∧ q.f0 ≤ y ∧ y < q.f1) := by
      intro d2 l2 h y
      rw [h y, hs y]
      constructor
      · rintro ((h | ⟨p, ⟨j, h1, h2⟩, h3⟩) | h)
        · exact .inl h
        · exact .inr ⟨p, ⟨j, by omega, h2⟩, h3⟩
        · exact .inr ⟨q, ⟨i, by omega, hc.symm⟩, h⟩
      · rintro (h | ⟨p, ⟨j, h1, h2⟩, h3⟩)
        · exact .inl (.inl h)
        · by_cases c : j = i
          · subst c
            rw [hc] at h2
            subst h2
            exact .inr h3
          · exact .inl (.inr ⟨p, ⟨j, by omega, h2⟩, h3⟩)
    have hd0 := ho.2.1
    have hE := ho.2.2.1
    rcases add_eq k d1 l1 q.f0 q.f1 h1 (by omega) (by omega) (by omega) (by omega) with ⟨_, _, d2, l2, c1, c2, _, c4⟩ | ⟨d2, l2, e2, o2, _, s2, _⟩
    · have := few d o ho (fun p => ∃ j : Nat, j < i + 1 ∧ p = rd_T29 (Gp d o) (((j : Int) + x1 % (o.length : Int)) % (o.length : Int))) (by
        rintro p ⟨j, hj, rfl⟩
        exact memg _ (Int.emod_nonneg _ (by omega)) (Int.emod_lt_of_pos _ (by omega))) d2 l2 c1 (hstep d2 l2 c4)
      omega
    · rw [e2, Option.bind_some]
      show (if (0 : Int) = 0 then packthreadkeep_HoleGapsAll.l0 k x1 d o (Gp d o) (En d o) (o.length : Int) d2 l2 ((i + 1 : Nat) : Int) else _) = some true
      rw [if_pos rfl]
      exact ih' d2 l2 (by omega) (by omega) o2 (hstep d2 l2 s2)
theorem HoleGapsAll : packthreadkeep_HoleGapsAll.Pure := by
  intro l0 a1 hm _ _ _
  obtain ⟨k, hk⟩ : ∃ k, 2000 ≤ k := ⟨2000, Nat.le_refl _⟩
  refine ⟨k, ?_⟩
  have hm' : l0.length ≤ 9000000000000000000 := by unfold maxLen at hm; omega
  obtain ⟨d, o, e, h⟩ := heap_eq k l0 20 (by decide) hm' (by omega)
  have hcap := h.2.2.2
  unfold packthreadkeep_HoleGapsAll.f
  rw [show (20 : Int) = ((20 : Nat) : Int) from rfl, e, Option.bind_some]
  show (hole_Gaps.f k d o).bind _ = _
  rw [gaps_eq k d o h (by omega), Option.bind_some]
  show (if true = true then if (0 : Int) = 0 then packthreadkeep_HoleGapsAll.j0 k a1 d o (Gp d o) (((Gp d o).length : Int) != (o.length : Int)) else _ else _) = some true
  rw [if_pos rfl, if_pos rfl, gp_len, show (((o.length : Nat) : Int) != (o.length : Int)) = false by simp]
  obtain ⟨k, rfl⟩ : ∃ q, k = q + 2 := ⟨k - 2, by omega⟩
  have fin : packthreadkeep_HoleGapsAll.j1 (k + 1) a1 d o (Gp d o) (En d o) = some true := by
    rw [packthreadkeep_HoleGapsAll.j1, gp_len]
    exact fill_l0 a1 d o h o.length 0 k d o (by omega) (by omega) h (fun y => ⟨fun h => .inl h, fun h => h.elim id (fun ⟨_, ⟨j, hj, _⟩, _⟩ => absurd hj (Nat.not_lt_zero _))⟩)
  rw [packthreadkeep_HoleGapsAll.j0, if_neg (by decide)]
  by_cases c : (o.length : Int) > 0
  · rw [if_pos c, wrap64_id (by omega) (by omega), if_pos (by omega), if_pos (by omega), en_last o d (by intro h; subst h; simp at c)]
    exact fin
  · rw [if_neg c]
    have hn : o = [] := List.eq_nil_of_length_eq_zero (by omega)
    subst hn
    exact fin

end Go.Proofs.Ytlgehakaedokeaa.Pure
