/- Proved: for every input the law HoleKnows answers true: a place came if one of all ranges has it; in whatever order, and however often they come, what is known is the same. Condition: none (every list of integers, all numbers). -/
import Derived.Test.YtlgehakaedokeaaPHoleKnowsx5
namespace Go.Proofs.Ytlgehakaedokeaa.Pure
open Go.RowKit Go.Proofs.Ytlgehakaedokeaa.PHoleKnows Go.Proofs.YtlgehakaedokeaaW.PrintWords Go.Proofs.YtlgehakaedokeaaW.PrintLast
set_option linter.unusedVariables false

theorem wrap64_id {x : Int} (h0 : -9223372036854775808 ≤ x) (h1 : x ≤ 9223372036854775807) : wrap64 x = x := by unfold wrap64; omega

theorem picked_eq (a n : Int) (h0 : 0 < n) (h1 : n ≤ 1000000000000) : packthreadkeep_Picked.f a n = some (a % n) := by
  unfold packthreadkeep_Picked.f
  rw [if_neg (by omega)]
  have hm := Int.tmod_eq_emod (a := a) (b := n)
  have hlo := Int.emod_nonneg a (show n ≠ 0 by omega)
  have hhi := Int.emod_lt_of_pos a h0
  by_cases hc : 0 ≤ a ∨ n ∣ a
  · rw [if_pos hc] at hm
    have e : a.tmod n = a % n := by rw [hm]; simp
    rw [e, if_neg (by omega)]
  · rw [if_neg hc] at hm
    have e : a.tmod n = a % n - n := by rw [hm]; congr 1; omega
    rw [e, if_pos (by omega), wrap64_id (by omega) (by omega)]
    congr 1; omega

def Ch : Int → List S29 → Prop
  | _, [] => True
  | lo, r :: t => lo < r.f0 ∧ r.f0 < r.f1 ∧ Ch r.f1 t
def En : Int → List S29 → Int
  | lo, [] => lo
  | _, r :: t => En r.f1 t
def InR : List S29 → Int → Prop
  | [], _ => False
  | r :: t, y => (r.f0 ≤ y ∧ y < r.f1) ∨ InR t y
theorem ch_append : ∀ (a b : List S29) (lo : Int), Ch lo (a ++ b) ↔ Ch lo a ∧ Ch (En lo a) b
  | [], b, lo => by simp [Ch, En]
  | r :: t, b, lo => by
    rw [List.cons_append]
    simp only [Ch, En]
    rw [ch_append t b r.f1]
    constructor
    · rintro ⟨h1, h2, h3, h4⟩
      exact ⟨⟨h1, h2, h3⟩, h4⟩
    · rintro ⟨⟨h1, h2, h3⟩, h4⟩
      exact ⟨h1, h2, h3, h4⟩
theorem en_append : ∀ (a b : List S29) (lo : Int), En lo (a ++ b) = En (En lo a) b
  | [], b, lo => rfl
  | r :: t, b, lo => by
    rw [List.cons_append]
    simp only [En]
    exact en_append t b r.f1
theorem in_append : ∀ (a b : List S29) (y : Int), InR (a ++ b) y ↔ InR a y ∨ InR b y
  | [], b, y => by simp [InR]
  | r :: t, b, y => by
    rw [List.cons_append]
    simp only [InR]
    rw [in_append t b y, or_assoc]
theorem ch_le_en : ∀ (l : List S29) (lo : Int), Ch lo l → lo ≤ En lo l
  | [], lo, _ => Int.le_refl _
  | r :: t, lo, h => by
    obtain ⟨h1, h2, h3⟩ := h
    have := ch_le_en t r.f1 h3
    simp only [En]
    omega
theorem ch_in : ∀ (l : List S29) (lo y : Int), Ch lo l → InR l y → lo < y ∧ y < En lo l
  | [], lo, y, _, h => h.elim
  | r :: t, lo, y, h, hi => by
    obtain ⟨h1, h2, h3⟩ := h
    have e := ch_le_en t r.f1 h3
    simp only [En]
    rcases hi with hi | hi
    · omega
    · have := ch_in t r.f1 y h3 hi
      omega
theorem ch_low : ∀ (l : List S29) (lo lo' : Int), Ch lo l → lo' ≤ lo → Ch lo' l
  | [], _, _, _, _ => True.intro
  | r :: t, lo, lo', h, hl => ⟨by have := h.1; omega, h.2⟩
theorem en_ne : ∀ (l : List S29) (lo lo' : Int), l ≠ [] → En lo l = En lo' l
  | [], _, _, h => absurd rfl h
  | _ :: _, _, _, _ => rfl
theorem drop_rd (l : List S29) (i : Nat) (h : i < l.length) : l.drop i = rd_T29 l (i : Int) :: l.drop (i + 1) := by
  rw [List.drop_eq_getElem_cons h]
  congr 1
  unfold rd_T29
  simp [h]
theorem ch_count : ∀ (l : List S29) (lo : Int) (fs : List Int), Ch lo l → (∀ r, r ∈ l → r.f0 ∈ fs) → l.length ≤ fs.length
  | [], _, _, _, _ => Nat.zero_le _
  | r :: t, lo, fs, h, hf => by
    obtain ⟨h1, h2, h3⟩ := h
    have hm := hf r List.mem_cons_self
    have far : ∀ (t : List S29) (lo : Int), Ch lo t → ∀ q, q ∈ t → lo < q.f0 := by
      intro t
      induction t with
      | nil => intro lo _ q hq; cases hq
      | cons a t ih =>
        intro lo ha q hq
        rcases List.mem_cons.1 hq with rfl | hq
        · exact ha.1
        · have := ih a.f1 ha.2.2 q hq
          have := ha.1
          have := ha.2.1
          omega
    have := ch_count t r.f1 (fs.erase r.f0) h3 (fun q hq => by
      have hq1 := far t r.f1 h3 q hq
      exact (List.mem_erase_of_ne (by omega)).2 (hf q (List.mem_cons_of_mem _ hq)))
    have hp : 0 < fs.length := List.length_pos_of_mem hm
    rw [List.length_erase_of_mem hm] at this
    rw [List.length_cons]
    omega
def Okay (d : Int) (l : List S29) : Prop := Ch d l ∧ 0 ≤ d ∧ En d l ≤ 1048576 ∧ l.length ≤ 16
theorem may_l0 (d : Int) (x1 l : List S29) (hL : l.length ≤ 100) : ∀ (m i k : Nat) (lo : Int), i + m = l.length → m < k →
    ∃ b, hole_May.l0 k d x1 lo l (l.length : Int) (i : Int) = some b ∧ (b = true ↔ (Ch lo (l.drop i) ∧ 0 ≤ d ∧ En lo (l.drop i) ≤ 1048576 ∧ d ≤ 1048576 ∧ x1.length ≤ 16)) := by
  intro m
  induction m with
  | zero =>
    intro i k lo hi hk
    obtain ⟨k, rfl⟩ : ∃ q, k = q + 1 := ⟨k - 1, by omega⟩
    rw [hole_May.l0, if_neg (by omega), List.drop_eq_nil_of_le (by omega)]
    simp only [Ch, En]
    by_cases h1 : d ≥ 0
    · rw [if_pos h1]
      by_cases h2 : lo ≤ 1048576
      · rw [if_pos h2]
        by_cases h3 : d ≤ 1048576
        · rw [if_pos h3]
          exact ⟨_, rfl, by rw [decide_eq_true_iff]; exact ⟨fun h => ⟨True.intro, by omega, by omega, by omega, by omega⟩, fun h => by have := h.2.2.2.2; omega⟩⟩
        · rw [if_neg h3]
          exact ⟨_, rfl, by simp; omega⟩
      · rw [if_neg h2]
        exact ⟨_, rfl, by simp; omega⟩
    · rw [if_neg h1]
      exact ⟨_, rfl, by simp; omega⟩
  | succ m ih =>
    intro i k lo hi hk
    obtain ⟨k, rfl⟩ : ∃ q, k = q + 1 := ⟨k - 1, by omega⟩
    rw [hole_May.l0, if_pos (by omega), if_pos (by omega), if_pos (by omega), drop_rd l i (by omega)]
    generalize rd_T29 l (i : Int) = r
    simp only [Ch, En]
    by_cases h1 : r.f0 ≤ lo
    · rw [if_pos h1]
      exact ⟨_, rfl, by simp; omega⟩
    · rw [if_neg h1]
      by_cases h2 : r.f0 ≥ r.f1
      · rw [if_pos h2]
        exact ⟨_, rfl, by simp; omega⟩
      · rw [if_neg h2, wrap64_id (by omega) (by omega), show ((i : Int) + 1) = ((i + 1 : Nat) : Int) by omega]
        obtain ⟨b, e, hb⟩ := ih (i + 1) k r.f1 (by omega) (by omega)
        refine ⟨b, e, hb.trans ⟨fun h => ⟨⟨by omega, by omega, h.1⟩, h.2⟩, fun h => ⟨h.1.2.2, h.2⟩⟩⟩
theorem may_eq (k : Nat) (d : Int) (l : List S29) (hL : l.length ≤ 100) (hk : 101 < k) : ∃ b, hole_May.f k d l = some b ∧ (b = true ↔ Okay d l) := by
  obtain ⟨b, e, hb⟩ := may_l0 d l l hL l.length 0 k d (by omega) (by omega)
  refine ⟨b, by unfold hole_May.f; exact e, hb.trans ?_⟩
  rw [List.drop_zero]
  constructor
  · rintro ⟨h1, h2, h3, _, h5⟩
    exact ⟨h1, h2, h3, h5⟩
  · rintro ⟨h1, h2, h3, h5⟩
    have := ch_le_en l d h1
    exact ⟨h1, h2, h3, by omega, h5⟩
theorem may_ok (k : Nat) (d : Int) (l : List S29) (h : Okay d l) (hk : 101 < k) : hole_May.f k d l = some true := by
  obtain ⟨b, e, hb⟩ := may_eq k d l (by have := h.2.2.2; omega) hk
  rw [e, hb.2 h]
theorem clone_eq (l : List S29) (h : l.length ≤ 100) : api_Range_31.f l = some l := by
  unfold api_Range_31.f
  rw [Option.bind_some, if_pos (by simp; omega), List.nil_append]
theorem concat3 (k : Nat) (A B : List S29) (x : S29) (hA : A.length ≤ 100) (hB : B.length ≤ 100) (hk : 10 ≤ k) : api_Range_36.f k [A, [x], B] = some (A ++ [x] ++ B) := by
  obtain ⟨k, rfl⟩ : ∃ q, k = q + 10 := ⟨k - 10, by omega⟩
  have r0 : rd_L2 [A, [x], B] 0 = A := rfl
  have r1 : rd_L2 [A, [x], B] 1 = [x] := rfl
  have r2 : rd_L2 [A, [x], B] 2 = B := rfl
  have l3 : (([A, [x], B] : List (List S29)).length : Int) = 3 := rfl
  have l1 : ([x].length : Int) = 1 := rfl
  have w1 : wrap64 (0 + (A.length : Int)) = A.length := by rw [wrap64_id (by omega) (by omega)]; omega
  have w2 : wrap64 ((A.length : Int) + 1) = A.length + 1 := wrap64_id (by omega) (by omega)
  have w3 : wrap64 ((A.length : Int) + 1 + B.length) = A.length + 1 + B.length := wrap64_id (by omega) (by omega)
  have i1 : wrap64 (0 + 1) = 1 := wrap64_id (by decide) (by decide)
  have i2 : wrap64 (1 + 1) = 2 := wrap64_id (by decide) (by decide)
  have i3 : wrap64 (2 + 1) = 3 := wrap64_id (by decide) (by decide)
  unfold api_Range_36.f
  rw [l3, api_Range_36.l0, if_pos (by decide), if_pos (by decide), if_pos (by rw [l3]; decide), r0, w1, if_neg (by omega), i1]
  rw [api_Range_36.l0, if_pos (by decide), if_pos (by decide), if_pos (by rw [l3]; decide), r1, l1, w2, if_neg (by omega), i2]
  rw [api_Range_36.l0, if_pos (by decide), if_pos (by decide), if_pos (by rw [l3]; decide), r2, w3, if_neg (by omega), i3]
  rw [api_Range_36.l0, if_neg (by decide), if_pos (by omega), if_pos (by omega), l3]
  rw [api_Range_36.l1, if_pos (by decide), if_pos (by decide), if_pos (by rw [l3]; decide), r0, if_pos (by simp; omega), i1, List.nil_append]
  rw [api_Range_36.l1, if_pos (by decide), if_pos (by decide), if_pos (by rw [l3]; decide), r1, if_pos (by simp; omega), i2]
  rw [api_Range_36.l1, if_pos (by decide), if_pos (by decide), if_pos (by rw [l3]; decide), r2, if_pos (by simp; omega), i3]
  rw [api_Range_36.l1, if_neg (by decide)]
theorem mn_eq (a b : Int) : mn a b = min a b := by unfold mn; omega
theorem mx_eq (a b : Int) : mx a b = max a b := by unfold mx; omega
theorem merged_l0 (d : Int) (l : List S29) (S : Int → Prop) (F : Int → Prop) (hl : l.length ≤ 16) (_hd : 0 ≤ d) : ∀ (m i k : Nat) (A B : List S29) (a b low : Int), i + m = l.length → m + 10 < k →
    d ≤ low → Ch low (l.drop i) → Ch d A → (En d A < a ∨ A = []) → En d A ≤ low → a < b → Ch (max b d) B → (B ≠ [] → En b B = low) → b ≤ 1048576 → En b B ≤ 1048576 → En low (l.drop i) ≤ 1048576 →
    A.length + B.length + (l.length - i) ≤ 16 → (∀ y, (InR A y ∨ (a ≤ y ∧ y < b) ∨ InR B y ∨ InR (l.drop i) y) ↔ S y) → (∀ r, r ∈ A → F r.f0) → (∀ r, r ∈ B → F r.f0) → F a → (∀ r, r ∈ l.drop i → F r.f0) →
    ∃ d' l', hole_merged.l0 k d A B l (l.length : Int) (i : Int) a b = some (d', l') ∧ Ch d' l' ∧ En d' l' ≤ 1048576 ∧ d ≤ d' ∧ (∀ y, (y < d' ∨ InR l' y) ↔ (y < d ∨ S y)) ∧ (∀ r, r ∈ l' → F r.f0) ∧ l'.length ≤ A.length + B.length + (l.length - i) + 1 := by
  intro m
  induction m with
  | zero =>
    intro i k A B a b low hi hk h1 h2 h3 h4 h5 h6 h7 h8 h9 h10 h11 h12 h13 f1 f2 f3 f4
    obtain ⟨k, rfl⟩ : ∃ q, k = q + 1 := ⟨k - 1, by omega⟩
    rw [hole_merged.l0, if_neg (by omega)]
    have hnil : l.drop i = [] := List.drop_eq_nil_of_le (by omega)
    have hlow := ch_le_en _ _ h2
    rw [hnil] at h13
    simp only [InR, or_false] at h13
    by_cases c : a ≤ d
    · rw [if_pos c, mx_eq]
      have hA : A = [] := by
        rcases h4 with h4 | h4
        · have := ch_le_en A d h3
          omega
        · exact h4
      subst hA
      simp only [InR, false_or] at h13
      refine ⟨max d b, B, rfl, ch_low _ _ _ h7 (by omega), ?_, by omega, fun y => ?_, f2, by omega⟩
      · by_cases hB : B = []
        · subst hB
          simp only [En]
          omega
        · rw [en_ne B (max d b) b hB]
          exact h10
      · rw [← h13]
        by_cases hb : InR B y
        · simp only [hb, or_true]
        · simp only [hb, or_false]
          omega
    · rw [if_neg c, concat3 _ _ _ _ (by omega) (by omega) (by omega), Option.bind_some]
      refine ⟨d, A ++ [⟨a, b⟩] ++ B, rfl, ?_, ?_, Int.le_refl _, fun y => ?_, fun r hr => ?_, by simp; omega⟩
      · rw [ch_append, ch_append, en_append]
        simp only [Ch, En]
        refine ⟨⟨h3, ?_, h6, True.intro⟩, ch_low _ _ _ h7 (by omega)⟩
        rcases h4 with h4 | h4
        · exact h4
        · subst h4
          simp only [En]
          omega
      · rw [en_append, en_append]
        simp only [En]
        exact h10
      · rw [← h13, in_append, in_append]
        simp only [InR, or_false, or_assoc]
      · rcases List.mem_append.1 hr with hr | hr
        · rcases List.mem_append.1 hr with hr | hr
          · exact f1 r hr
          · rw [List.mem_singleton.1 hr]
            exact f3
        · exact f2 r hr
  | succ m ih =>
    intro i k A B a b low hi hk h1 h2 h3 h4 h5 h6 h7 h8 h9 h10 h11 h12 h13 f1 f2 f3 f4
    obtain ⟨k, rfl⟩ : ∃ q, k = q + 1 := ⟨k - 1, by omega⟩
    rw [hole_merged.l0, if_pos (by omega), if_pos (by omega), if_pos (by omega)]
    rw [drop_rd l i (by omega)] at h2 h11 h13 f4
    revert h2 h11 h13 f4
    generalize rd_T29 l (i : Int) = x
    intro h2 h11 h13 f4
    obtain ⟨g1, g2, g3⟩ := h2
    simp only [En] at h11
    simp only [InR] at h13
    have fx := f4 x List.mem_cons_self
    have f4' : ∀ r, r ∈ l.drop (i + 1) → F r.f0 := fun r hr => f4 r (List.mem_cons_of_mem _ hr)
    have hx := ch_le_en _ _ g3
    have eB : B ≠ [] → b < low := fun hB => by
      have := h8 hB
      cases B with
      | nil => exact absurd rfl hB
      | cons r t =>
        have h71 := h7.1
        have h72 := h7.2.1
        have := ch_le_en t r.f1 h7.2.2
        simp only [En] at *
        omega
    have hw : wrap64 ((i : Int) + 1) = ((i + 1 : Nat) : Int) := by rw [wrap64_id (by omega) (by omega)]; omega
    have ex : (⟨x.f0, x.f1⟩ : S29) = x := rfl
    rw [hw, ex]
    by_cases c1 : x.f1 < a
    · rw [if_pos c1, if_pos (by omega)]
      have hB : B = [] := by
        by_cases hB : B = []
        · exact hB
        · have := eB hB
          omega
      subst hB
      obtain ⟨d', l', e, p1, p2, p3, p4, p5, p6⟩ := ih (i + 1) k (A ++ [x]) [] a b x.f1 (by omega) (by omega) (by omega) g3 (by rw [ch_append]; exact ⟨h3, by simp only [Ch]; exact ⟨by omega, g2, True.intro⟩⟩) (.inl (by rw [en_append]; simp only [En]; omega)) (by rw [en_append]; simp only [En]; omega) h6 True.intro (fun h => absurd rfl h) h9 h10 h11 (by simp only [List.length_append, List.length_cons, List.length_nil] at *; omega) (fun y => by
        rw [← h13 y, in_append]
        simp only [InR, or_false, false_or]
        rw [or_assoc, or_left_comm (a := a ≤ y ∧ y < b)]) (fun r hr => by
        rcases List.mem_append.1 hr with hr | hr
        · exact f1 r hr
        · rw [List.mem_singleton.1 hr]
          exact fx) f2 f3 f4'
      exact ⟨d', l', e, p1, p2, p3, p4, p5, by simp only [List.length_append, List.length_cons, List.length_nil] at *; omega⟩
    · rw [if_neg c1]
      by_cases c2 : x.f0 > b
      · rw [if_pos c2, if_pos (by omega)]
        obtain ⟨d', l', e, p1, p2, p3, p4, p5, p6⟩ := ih (i + 1) k A (B ++ [x]) a b x.f1 (by omega) (by omega) (by omega) g3 h3 h4 (by omega) h6 (by
          rw [ch_append]
          refine ⟨h7, ?_⟩
          simp only [Ch]
          refine ⟨?_, g2, True.intro⟩
          by_cases hB : B = []
          · subst hB
            simp only [En]
            omega
          · rw [en_ne B _ b hB, h8 hB]
            exact g1) (fun _ => by rw [en_append]; rfl) h9 (by rw [en_append]; simp only [En]; omega) h11 (by simp only [List.length_append, List.length_cons, List.length_nil] at *; omega) (fun y => by
          rw [← h13 y, in_append]
          simp only [InR, or_false, or_assoc]) f1 (fun r hr => by
          rcases List.mem_append.1 hr with hr | hr
          · exact f2 r hr
          · rw [List.mem_singleton.1 hr]
            exact fx) f3 f4'
        exact ⟨d', l', e, p1, p2, p3, p4, p5, by simp only [List.length_append, List.length_cons, List.length_nil] at *; omega⟩
      · rw [if_neg c2, mn_eq, mx_eq]
        have hB : B = [] := by
          by_cases hB : B = []
          · exact hB
          · have := eB hB
            omega
        subst hB
        obtain ⟨d', l', e, p1, p2, p3, p4, p5, p6⟩ := ih (i + 1) k A [] (min a x.f0) (max b x.f1) x.f1 (by omega) (by omega) (by omega) g3 h3 (by rcases h4 with h4 | h4; exact .inl (by omega); exact .inr h4) (by omega) (by omega) True.intro (fun h => absurd rfl h) (by omega) (by simp only [En]; omega) h11 (by simp only [List.length_nil] at *; omega) (fun y => by
          rw [← h13 y]
          simp only [InR, false_or]
          by_cases q1 : InR A y
          · simp only [q1, true_or]
          · by_cases q2 : InR (l.drop (i + 1)) y
            · simp only [q2, or_true]
            · simp only [q1, q2, or_false, false_or]
              omega) f1 f2 (by
          by_cases c3 : a ≤ x.f0
          · rw [Int.min_eq_left c3]; exact f3
          · rw [Int.min_eq_right (by omega)]; exact fx) f4'
        exact ⟨d', l', e, p1, p2, p3, p4, p5, by omega⟩
theorem add_eq (k : Nat) (d : Int) (l : List S29) (a b : Int) (h : Okay d l) (h0 : 0 ≤ a) (h1 : a ≤ b) (h2 : b ≤ 1048576) (hk : 200 < k) :
    (hole_Add.f k d l a b = some (0, [], 9) ∧ l.length = 16 ∧ ∃ d2 l2, Ch d2 l2 ∧ 16 < l2.length ∧ ∀ r, r ∈ l2 → r.f0 = a ∨ ∃ q, q ∈ l ∧ q.f0 = r.f0) ∨
    ∃ d' l', hole_Add.f k d l a b = some (d', l', 0) ∧ Okay d' l' ∧ d ≤ d' ∧ (∀ y, (y < d' ∨ InR l' y) ↔ ((y < d ∨ InR l y) ∨ (a ≤ y ∧ y < b))) ∧ ∀ r, r ∈ l' → r.f0 = a ∨ ∃ q, q ∈ l ∧ q.f0 = r.f0 := by
  unfold hole_Add.f
  rw [may_ok k d l h (by omega), Option.bind_some, if_pos rfl, if_neg (by omega), if_neg (by omega), if_neg (by omega)]
  obtain ⟨o1, o2, o3, o4⟩ := h
  by_cases c : a < b
  · rw [if_pos c]
    obtain ⟨d', l', e, p1, p2, p3, p4, p5, p6⟩ := merged_l0 d l (fun y => (a ≤ y ∧ y < b) ∨ InR l y) (fun z => z = a ∨ ∃ q, q ∈ l ∧ q.f0 = z) o4 o2 l.length 0 k [] [] a b d (by omega) (by omega) (Int.le_refl _) (by rw [List.drop_zero]; exact o1) True.intro (.inr rfl) (Int.le_refl _) c True.intro (fun h => absurd rfl h) h2 h2 (by rw [List.drop_zero]; exact o3) (by simp only [List.length_nil]; omega) (fun y => by simp only [InR, false_or, List.drop_zero]) (fun r hr => by cases hr) (fun r hr => by cases hr) (.inl rfl) (fun r hr => .inr ⟨r, by simpa using hr, rfl⟩)
    have e' : hole_merged.f k d l a b = some (d', l') := by unfold hole_merged.f; exact e
    simp only [List.length_nil] at p6
    rw [e', Option.bind_some]
    by_cases c2 : (l'.length : Int) > 16
    · rw [if_pos c2]
      exact .inl ⟨rfl, by omega, d', l', p1, by omega, p5⟩
    · rw [if_neg c2]
      show _ ∨ ∃ _ _, (api_Range_31.f l').bind _ = _ ∧ _
      rw [clone_eq l' (by omega), Option.bind_some]
      refine .inr ⟨d', l', rfl, ⟨p1, by omega, p2, by omega⟩, p3, fun y => (p4 y).trans ?_, p5⟩
      rw [or_assoc, or_comm (a := a ≤ y ∧ y < b)]
  · rw [if_neg c, if_neg (by omega), clone_eq l (by omega), Option.bind_some]
    refine .inr ⟨d, l, rfl, ⟨o1, o2, o3, o4⟩, Int.le_refl _, fun y => ?_, fun r hr => .inr ⟨r, hr, rfl⟩⟩
    constructor
    · exact fun h => .inl h
    · rintro (h | h)
      · exact h
      · omega
theorem range_eq (a b : Int) : packthreadkeep_RangeOf.f a b = some (a % 170, a % 170 + b % 30) := by
  unfold packthreadkeep_RangeOf.f
  rw [picked_eq _ _ (by decide) (by decide), Option.bind_some, picked_eq _ _ (by decide) (by decide), Option.bind_some, wrap64_id (by omega) (by omega)]
theorem heap_l0 (L : List Int) (n : Nat) (hn : n ≤ 24) (_hL : L.length ≤ 9000000000000000000) : ∀ (m i k : Nat) (d : Int) (l : List S29), 2 * n ≤ i + 2 * m → i ≤ 100 → 2 * m + 210 < k → Okay d l →
    ∃ d' l', packthreadkeep_Heap.l0 k L (n : Int) d l (i : Int) = some (d', l', true) ∧ Okay d' l' := by
  intro m
  induction m with
  | zero =>
    intro i k d l hi hi2 hk h
    obtain ⟨k, rfl⟩ : ∃ q, k = q + 2 := ⟨k - 2, by omega⟩
    refine ⟨d, l, ?_, h⟩
    have e : (decide ((i : Int) < wrap64 (2 * (n : Int)))) = false := by
      rw [wrap64_id (by omega) (by omega), decide_eq_false_iff_not]
      omega
    rw [packthreadkeep_Heap.l0, e]
    have e2 : packthreadkeep_Heap.j1 (k + 1) L (n : Int) d l (i : Int) false = some (d, l, true) := by
      rw [packthreadkeep_Heap.j1, if_neg (by decide), may_ok k d l h (by omega), Option.bind_some]
    rw [e2, ite_self]
  | succ m ih =>
    intro i k d l hi hi2 hk h
    obtain ⟨k, rfl⟩ : ∃ q, k = q + 2 := ⟨k - 2, by omega⟩
    have e2 : packthreadkeep_Heap.j1 (k + 1) L (n : Int) d l (i : Int) false = some (d, l, true) := by
      rw [packthreadkeep_Heap.j1, if_neg (by decide), may_ok k d l h (by omega), Option.bind_some]
    have hw1 : wrap64 ((i : Int) + 1) = ((i + 1 : Nat) : Int) := by rw [wrap64_id (by omega) (by omega)]; omega
    have hw2 : wrap64 ((i : Int) + 2) = ((i + 2 : Nat) : Int) := by rw [wrap64_id (by omega) (by omega)]; omega
    rw [packthreadkeep_Heap.l0, hw1]
    by_cases c1 : ((i + 1 : Nat) : Int) < (L.length : Int)
    · rw [if_pos c1]
      by_cases c2 : (i : Int) < wrap64 (2 * (n : Int))
      · have c2' := c2
        rw [wrap64_id (by omega) (by omega)] at c2'
        rw [decide_eq_true c2, packthreadkeep_Heap.j1, if_pos rfl, if_pos (by omega), if_pos (by omega), hw1, if_pos (by omega), if_pos c1, range_eq, Option.bind_some, hw2]
        show ∃ d' l', (hole_Add.f k d l (rd L (i : Int) % 170) (rd L (i : Int) % 170 + rd L ((i + 1 : Nat) : Int) % 30)).bind _ = _ ∧ _
        rcases add_eq k d l (rd L (i : Int) % 170) (rd L (i : Int) % 170 + rd L ((i + 1 : Nat) : Int) % 30) h (by omega) (by omega) (by omega) (by omega) with ⟨e, _⟩ | ⟨d2, l2, e, ho, _⟩
        · rw [e, Option.bind_some]
          show ∃ d' l', (if (9 : Int) = 9 then packthreadkeep_Heap.l0 k L n d l ((i + 2 : Nat) : Int) else _) = _ ∧ _
          rw [if_pos rfl]
          exact ih (i + 2) k d l (by omega) (by omega) (by omega) h
        · rw [e, Option.bind_some]
          show ∃ d' l', (if (0 : Int) = 9 then _ else if (0 : Int) = 0 then packthreadkeep_Heap.l0 k L n d2 l2 ((i + 2 : Nat) : Int) else _) = _ ∧ _
          rw [if_neg (by decide), if_pos rfl]
          exact ih (i + 2) k d2 l2 (by omega) (by omega) (by omega) ho
      · rw [decide_eq_false c2, e2]
        exact ⟨d, l, rfl, h⟩
    · rw [if_neg c1]
      by_cases c2 : (i : Int) < wrap64 (2 * (n : Int))
      · exact ⟨d, l, e2, h⟩
      · exact ⟨d, l, e2, h⟩
theorem okay_nil : Okay 0 [] := ⟨True.intro, Int.le_refl _, by simp only [En]; omega, by simp⟩
theorem heap_eq (k : Nat) (L : List Int) (n : Nat) (hn : n ≤ 24) (hL : L.length ≤ 9000000000000000000) (hk : 300 < k) : ∃ d l, packthreadkeep_Heap.f k L (n : Int) = some (d, l, true) ∧ Okay d l := by
  unfold packthreadkeep_Heap.f
  exact heap_l0 L n hn hL n 0 k 0 [] (by omega) (by omega) (by omega) okay_nil
theorem has_l0 (l : List S29) (y : Int) (hL : l.length ≤ 100) : ∀ (m i k : Nat), i + m = l.length → m < k → ∃ b, packthreadkeep_has.l0 k l y (i : Int) = some b ∧ (b = true ↔ InR (l.drop i) y) := by
  intro m
  induction m with
  | zero =>
    intro i k hi hk
    obtain ⟨k, rfl⟩ : ∃ q, k = q + 1 := ⟨k - 1, by omega⟩
    rw [packthreadkeep_has.l0, if_neg (by omega), List.drop_eq_nil_of_le (by omega)]
    exact ⟨false, rfl, by simp [InR]⟩
  | succ m ih =>
    intro i k hi hk
    obtain ⟨k, rfl⟩ : ∃ q, k = q + 1 := ⟨k - 1, by omega⟩
    have hw1 : wrap64 ((i : Int) + 1) = ((i + 1 : Nat) : Int) := by rw [wrap64_id (by omega) (by omega)]; omega
    rw [packthreadkeep_has.l0, if_pos (by omega), if_pos (by omega), drop_rd l i (by omega), hw1]
    obtain ⟨b, e, hb⟩ := ih (i + 1) k (by omega) (by omega)
    simp only [InR]
    by_cases c1 : (rd_T29 l (i : Int)).f0 ≤ y
    · rw [if_pos c1]
      by_cases c2 : y < (rd_T29 l (i : Int)).f1
      · rw [if_pos c2]
        exact ⟨true, rfl, by simp [c1, c2]⟩
      · rw [if_neg c2]
        exact ⟨b, e, by rw [hb]; simp [c2]⟩
    · rw [if_neg c1]
      exact ⟨b, e, by rw [hb]; simp [c1]⟩
theorem has_eq (k : Nat) (d : Int) (l : List S29) (y : Int) (hL : l.length ≤ 100) (hk : 101 < k) : ∃ b, packthreadkeep_has.f k d l y = some b ∧ (b = true ↔ (y < d ∨ InR l y)) := by
  unfold packthreadkeep_has.f
  by_cases c : y < d
  · rw [if_pos c]
    exact ⟨true, rfl, by simp [c]⟩
  · rw [if_neg c]
    obtain ⟨b, e, hb⟩ := has_l0 l y hL l.length 0 k (by omega) (by omega)
    exact ⟨b, e, by rw [hb, List.drop_zero]; simp [c]⟩

theorem canon_l : ∀ (l l' : List S29) (lo : Int), Ch lo l → Ch lo l' → (∀ y, InR l y ↔ InR l' y) → l = l'
  | [], [], _, _, _, _ => rfl
  | [], r :: t, lo, _, h', hs => ((hs r.f0).2 (.inl ⟨Int.le_refl _, h'.2.1⟩)).elim
  | r :: t, [], lo, h, _, hs => ((hs r.f0).1 (.inl ⟨Int.le_refl _, h.2.1⟩)).elim
  | r :: t, r' :: t', lo, h, h', hs => by
    obtain ⟨h1, h2, h3⟩ := h
    obtain ⟨g1, g2, g3⟩ := h'
    have a1 := (hs r.f0).1 (.inl ⟨Int.le_refl _, h2⟩)
    have a2 := (hs r'.f0).2 (.inl ⟨Int.le_refl _, g2⟩)
    have e0 : r.f0 = r'.f0 := by
      have b1 : r'.f0 ≤ r.f0 := by
        rcases a1 with a1 | a1
        · exact a1.1
        · have := (ch_in t' r'.f1 _ g3 a1).1
          omega
      have b2 : r.f0 ≤ r'.f0 := by
        rcases a2 with a2 | a2
        · exact a2.1
        · have := (ch_in t r.f1 _ h3 a2).1
          omega
      omega
    have e1 : r.f1 = r'.f1 := by
      by_cases c : r.f1 < r'.f1
      · rcases (hs r.f1).2 (.inl ⟨by omega, c⟩) with q | q
        · omega
        · have := (ch_in t r.f1 _ h3 q).1
          omega
      · by_cases c : r'.f1 < r.f1
        · rcases (hs r'.f1).1 (.inl ⟨by omega, c⟩) with q | q
          · omega
          · have := (ch_in t' r'.f1 _ g3 q).1
            omega
        · omega
    have er : r = r' := by
      cases r
      cases r'
      simp only at e0 e1
      rw [e0, e1]
    subst er
    rw [canon_l t t' r.f1 h3 g3 (fun y => by
      constructor
      · intro q
        have := (ch_in t r.f1 _ h3 q).1
        rcases (hs y).1 (.inr q) with z | z
        · omega
        · exact z
      · intro q
        have := (ch_in t' r.f1 _ g3 q).1
        rcases (hs y).2 (.inr q) with z | z
        · omega
        · exact z)]
theorem canon (d d' : Int) (l l' : List S29) (h : Ch d l) (h' : Ch d' l') (hs : ∀ y, (y < d ∨ InR l y) ↔ (y < d' ∨ InR l' y)) : d = d' ∧ l = l' := by
  have e : d = d' := by
    by_cases c : d < d'
    · rcases (hs d).2 (.inl c) with q | q
      · omega
      · have := (ch_in l d d h q).1
        omega
    · by_cases c : d' < d
      · rcases (hs d').1 (.inl c) with q | q
        · omega
        · have := (ch_in l' d' d' h' q).1
          omega
      · omega
  subst e
  refine ⟨rfl, canon_l l l' d h h' fun y => ?_⟩
  constructor
  · intro q
    have := (ch_in l d y h q).1
    rcases (hs y).1 (.inr q) with z | z
    · omega
    · exact z
  · intro q
    have := (ch_in l' d y h' q).1
    rcases (hs y).2 (.inr q) with z | z
    · omega
    · exact z
def Inj (L : List Int) (j : Nat) (y : Int) : Prop := rd L ((2 * j : Nat) : Int) % 170 ≤ y ∧ y < rd L ((2 * j : Nat) : Int) % 170 + rd L ((2 * j + 1 : Nat) : Int) % 30
theorem heap_k (L : List Int) (n : Nat) (hn : n ≤ 24) (fs : List Int) (hfl : fs.length ≤ 16) (hfs : ∀ j : Nat, j < n → 2 * j + 1 < L.length → rd L ((2 * j : Nat) : Int) % 170 ∈ fs) : ∀ (m q k : Nat) (d : Int) (l : List S29), n = q + m → 2 * m + 210 < k → Okay d l → (∀ r, r ∈ l → r.f0 ∈ fs) →
    ∃ d' l', packthreadkeep_Heap.l0 k L (n : Int) d l ((2 * q : Nat) : Int) = some (d', l', true) ∧ Okay d' l' ∧ ∀ y, (y < d' ∨ InR l' y) ↔ ((y < d ∨ InR l y) ∨ ∃ j : Nat, q ≤ j ∧ j < n ∧ 2 * j + 1 < L.length ∧ Inj L j y) := by
  intro m
  induction m with
  | zero =>
    intro q k d l hi hk h hf
    obtain ⟨k, rfl⟩ : ∃ q, k = q + 2 := ⟨k - 2, by omega⟩
    refine ⟨d, l, ?_, h, fun y => ⟨fun h => .inl h, fun h => ?_⟩⟩
    · have e : (decide (((2 * q : Nat) : Int) < wrap64 (2 * (n : Int)))) = false := by
        rw [wrap64_id (by omega) (by omega), decide_eq_false_iff_not]
        omega
      rw [packthreadkeep_Heap.l0, e]
      have e2 : packthreadkeep_Heap.j1 (k + 1) L (n : Int) d l ((2 * q : Nat) : Int) false = some (d, l, true) := by
        rw [packthreadkeep_Heap.j1, if_neg (by decide), may_ok k d l h (by omega), Option.bind_some]
      rw [e2, ite_self]
    · rcases h with h | ⟨j, h1, h2, _⟩
      · exact h
      · omega
  | succ m ih =>
    intro q k d l hi hk h hf
    obtain ⟨k, rfl⟩ : ∃ q, k = q + 2 := ⟨k - 2, by omega⟩
    have hw1 : wrap64 (((2 * q : Nat) : Int) + 1) = ((2 * q + 1 : Nat) : Int) := by rw [wrap64_id (by omega) (by omega)]; omega
    have hw2 : wrap64 (((2 * q : Nat) : Int) + 2) = ((2 * (q + 1) : Nat) : Int) := by rw [wrap64_id (by omega) (by omega)]; omega
    have c2 : ((2 * q : Nat) : Int) < wrap64 (2 * (n : Int)) := by rw [wrap64_id (by omega) (by omega)]; omega
    rw [packthreadkeep_Heap.l0, hw1, decide_eq_true c2]
    by_cases c1 : ((2 * q + 1 : Nat) : Int) < (L.length : Int)
    · rw [if_pos c1, packthreadkeep_Heap.j1, if_pos rfl, if_pos (by omega), if_pos (by omega), hw1, if_pos (by omega), if_pos c1, range_eq, Option.bind_some, hw2]
      have hfq := hfs q (by omega) (by omega)
      show ∃ d' l', (hole_Add.f k d l (rd L ((2 * q : Nat) : Int) % 170) (rd L ((2 * q : Nat) : Int) % 170 + rd L ((2 * q + 1 : Nat) : Int) % 30)).bind _ = _ ∧ _
      have hin : ∀ l2 : List S29, (∀ r, r ∈ l2 → r.f0 = rd L ((2 * q : Nat) : Int) % 170 ∨ ∃ q, q ∈ l ∧ q.f0 = r.f0) → ∀ r, r ∈ l2 → r.f0 ∈ fs := by
        intro l2 hl2 r hr
        rcases hl2 r hr with e | ⟨q, h1, h2⟩
        · rw [e]; exact hfq
        · rw [← h2]; exact hf q h1
      rcases add_eq k d l (rd L ((2 * q : Nat) : Int) % 170) (rd L ((2 * q : Nat) : Int) % 170 + rd L ((2 * q + 1 : Nat) : Int) % 30) h (by omega) (by omega) (by omega) (by omega) with ⟨_, _, d2, l2, hc, hl2, hf2⟩ | ⟨d2, l2, e, ho, _, hs, hf2⟩
      · have := ch_count l2 d2 fs hc (hin l2 hf2)
        omega
      · rw [e, Option.bind_some]
        show ∃ d' l', (if (0 : Int) = 9 then _ else if (0 : Int) = 0 then packthreadkeep_Heap.l0 k L n d2 l2 ((2 * (q + 1) : Nat) : Int) else _) = _ ∧ _
        rw [if_neg (by decide), if_pos rfl]
        obtain ⟨d3, l3, e3, o3, s3⟩ := ih (q + 1) k d2 l2 (by omega) (by omega) ho (hin l2 hf2)
        refine ⟨d3, l3, e3, o3, fun y => (s3 y).trans ?_⟩
        rw [hs y]
        constructor
        · rintro ((h | h) | ⟨j, h1, h2, h3, h4⟩)
          · exact .inl h
          · exact .inr ⟨q, Nat.le_refl _, by omega, by omega, h⟩
          · exact .inr ⟨j, by omega, h2, h3, h4⟩
        · rintro (h | ⟨j, h1, h2, h3, h4⟩)
          · exact .inl (.inl h)
          · by_cases c : j = q
            · subst c
              exact .inl (.inr h4)
            · exact .inr ⟨j, by omega, h2, h3, h4⟩
    · rw [if_neg c1]
      refine ⟨d, l, ?_, h, fun y => ⟨fun h => .inl h, fun h => ?_⟩⟩
      · rw [packthreadkeep_Heap.j1, if_neg (by decide), may_ok k d l h (by omega), Option.bind_some]
      · rcases h with h | ⟨j, h1, h2, h3, _⟩
        · exact h
        · omega
theorem heap_knows (k : Nat) (L : List Int) (n : Nat) (hn : n ≤ 24) (fs : List Int) (hfl : fs.length ≤ 16) (hfs : ∀ j : Nat, j < n → 2 * j + 1 < L.length → rd L ((2 * j : Nat) : Int) % 170 ∈ fs) (hk : 300 < k) :
    ∃ d l, packthreadkeep_Heap.f k L (n : Int) = some (d, l, true) ∧ Okay d l ∧ ∀ y, (y < d ∨ InR l y) ↔ (y < 0 ∨ ∃ j : Nat, j < n ∧ 2 * j + 1 < L.length ∧ Inj L j y) := by
  unfold packthreadkeep_Heap.f
  obtain ⟨d, l, e, h, hs⟩ := heap_k L n hn fs hfl hfs n 0 k 0 [] (by omega) (by omega) okay_nil (fun r hr => by cases hr)
  refine ⟨d, l, e, h, fun y => (hs y).trans ?_⟩
  simp only [InR, or_false, Nat.zero_le, true_and]
theorem same_l0 (l : List S29) (hL : l.length ≤ 100) : ∀ (m i k : Nat), i + m = l.length → m < k → packthreadkeep_sameRanges.l0 k l l (i : Int) = some true := by
  intro m
  induction m with
  | zero =>
    intro i k hi hk
    obtain ⟨k, rfl⟩ : ∃ q, k = q + 1 := ⟨k - 1, by omega⟩
    rw [packthreadkeep_sameRanges.l0, if_neg (by omega)]
  | succ m ih =>
    intro i k hi hk
    obtain ⟨k, rfl⟩ : ∃ q, k = q + 1 := ⟨k - 1, by omega⟩
    have hw1 : wrap64 ((i : Int) + 1) = ((i + 1 : Nat) : Int) := by rw [wrap64_id (by omega) (by omega)]; omega
    rw [packthreadkeep_sameRanges.l0, if_pos (by omega), if_pos (by omega), if_pos (by omega), if_neg (by simp), hw1]
    exact ih (i + 1) k (by omega) (by omega)
theorem same_eq (k : Nat) (l : List S29) (hL : l.length ≤ 100) (hk : 101 < k) : packthreadkeep_sameRanges.f k l l = some true := by
  unfold packthreadkeep_sameRanges.f
  rw [if_pos rfl]
  exact same_l0 l hL l.length 0 k (by omega) (by omega)
theorem want_l2 (P : List Int) (n : Nat) (hP : P.length = 2 * n) (hn : n ≤ 12) (d : Int) (l : List S29) (hl : l.length ≤ 16) (y : Int) : ∀ (m i k : Nat) (acc : Bool), i + m = n → m + 110 < k →
    ∃ b1 b2 : Bool, packthreadkeep_HoleKnows.l2 k P (n : Int) d l y acc (i : Int) = some (b1 == b2) ∧ (b1 = true ↔ (y < d ∨ InR l y)) ∧ (b2 = true ↔ (acc = true ∨ ∃ j : Nat, i ≤ j ∧ j < n ∧ Inj P j y)) := by
  intro m
  induction m with
  | zero =>
    intro i k acc hi hk
    obtain ⟨k, rfl⟩ : ∃ q, k = q + 1 := ⟨k - 1, by omega⟩
    rw [packthreadkeep_HoleKnows.l2, if_neg (by omega)]
    obtain ⟨b, e, hb⟩ := has_eq k d l y (by omega) (by omega)
    rw [e, Option.bind_some]
    refine ⟨b, acc, rfl, hb, ⟨fun h => .inl h, fun h => ?_⟩⟩
    rcases h with h | ⟨j, h1, h2, _⟩
    · exact h
    · omega
  | succ m ih =>
    intro i k acc hi hk
    obtain ⟨k, rfl⟩ : ∃ q, k = q + 1 := ⟨k - 1, by omega⟩
    have hw0 : wrap64 (2 * (i : Int)) = ((2 * i : Nat) : Int) := by rw [wrap64_id (by omega) (by omega)]; omega
    have hw1 : wrap64 ((i : Int) + 1) = ((i + 1 : Nat) : Int) := by rw [wrap64_id (by omega) (by omega)]; omega
    have hw2 : wrap64 (((2 * i : Nat) : Int) + 1) = ((2 * i + 1 : Nat) : Int) := by rw [wrap64_id (by omega) (by omega)]; omega
    rw [packthreadkeep_HoleKnows.l2, hw0, hw2, hw1, if_pos (by omega), if_pos (by omega), if_pos (by omega), if_pos (by omega), if_pos (by omega), range_eq, Option.bind_some]
    show ∃ b1 b2 : Bool, (if acc = true then packthreadkeep_HoleKnows.l2 k P n d l y true ((i + 1 : Nat) : Int) else if rd P ((2 * i : Nat) : Int) % 170 ≤ y then packthreadkeep_HoleKnows.l2 k P n d l y (decide (y < rd P ((2 * i : Nat) : Int) % 170 + rd P ((2 * i + 1 : Nat) : Int) % 30)) ((i + 1 : Nat) : Int) else packthreadkeep_HoleKnows.l2 k P n d l y false ((i + 1 : Nat) : Int)) = _ ∧ _
    have key : ∀ acc' : Bool, (acc' = true ↔ (acc = true ∨ Inj P i y)) → ∃ b1 b2 : Bool, packthreadkeep_HoleKnows.l2 k P n d l y acc' ((i + 1 : Nat) : Int) = some (b1 == b2) ∧ (b1 = true ↔ (y < d ∨ InR l y)) ∧ (b2 = true ↔ (acc = true ∨ ∃ j : Nat, i ≤ j ∧ j < n ∧ Inj P j y)) := by
      intro acc' ha
      obtain ⟨b1, b2, e, h1, h2⟩ := ih (i + 1) k acc' (by omega) (by omega)
      refine ⟨b1, b2, e, h1, h2.trans ?_⟩
      rw [ha]
      constructor
      · rintro ((h | h) | ⟨j, q1, q2, q3⟩)
        · exact .inl h
        · exact .inr ⟨i, Nat.le_refl _, by omega, h⟩
        · exact .inr ⟨j, by omega, q2, q3⟩
      · rintro (h | ⟨j, q1, q2, q3⟩)
        · exact .inl (.inl h)
        · by_cases c : j = i
          · subst c
            exact .inl (.inr q3)
          · exact .inr ⟨j, by omega, q2, q3⟩
    by_cases c0 : acc = true
    · rw [if_pos c0]
      exact key true (by simp [c0])
    · rw [if_neg c0]
      by_cases c1 : rd P ((2 * i : Nat) : Int) % 170 ≤ y
      · rw [if_pos c1]
        exact key _ (by rw [decide_eq_true_iff]; exact ⟨fun h => .inr ⟨c1, h⟩, fun h => h.elim (fun h => absurd h c0) (fun h => h.2)⟩)
      · rw [if_neg c1]
        exact key _ ⟨fun h => (by cases h), fun h => h.elim (fun h => absurd h c0) (fun h => absurd h.1 c1)⟩
theorem rd_left (a b : List Int) (i : Nat) (h : i < a.length) : rd (a ++ b) (i : Int) = rd a (i : Int) := by
  unfold rd
  simp [List.getD_eq_getElem?_getD, List.getElem?_append_left h]
theorem rd_right (a b : List Int) (i j : Nat) (h : i = a.length + j) : rd (a ++ b) (i : Int) = rd b (j : Int) := by
  unfold rd
  rw [Int.toNat_natCast, Int.toNat_natCast, List.getD_eq_getElem?_getD, List.getD_eq_getElem?_getD, List.getElem?_append_right (by omega)]
  congr 2
  omega
def Subs (T P : List Int) (q n : Nat) : Prop := T.length = 2 * q ∧ ∀ j, j < q → ∃ i, i < n ∧ rd T ((2 * j : Nat) : Int) = rd P ((2 * i : Nat) : Int) ∧ rd T ((2 * j + 1 : Nat) : Int) = rd P ((2 * i + 1 : Nat) : Int)
theorem subs_cons (T P : List Int) (q n i : Nat) (h : Subs T P q n) (hi : i < n) : Subs ([rd P ((2 * i : Nat) : Int), rd P ((2 * i + 1 : Nat) : Int)] ++ T) P (q + 1) n := by
  refine ⟨by simp [h.1]; omega, fun j hj => ?_⟩
  cases j with
  | zero => exact ⟨i, hi, rfl, rfl⟩
  | succ j =>
    obtain ⟨i2, h1, h2, h3⟩ := h.2 j (by omega)
    refine ⟨i2, h1, ?_, ?_⟩
    · rw [rd_right _ _ (2 * (j + 1)) (2 * j) (by simp; omega), h2]
    · rw [rd_right _ _ (2 * (j + 1) + 1) (2 * j + 1) (by simp; omega), h3]

theorem l1_eq (x1 x2 : Int) (P : List Int) (n : Nat) (hP : P.length = 2 * n) (hn : n ≤ 12) : ∀ (m i k : Nat) (T : List Int), i + m = n → m + 700 < k → Subs T P i n → packthreadkeep_HoleKnows.l1 k x1 x2 P (n : Int) T (i : Int) = some true := by
  intro m
  induction m with
  | zero =>
    intro i k T hi hk hT
    obtain ⟨k, rfl⟩ : ∃ q, k = q + 1 := ⟨k - 1, by omega⟩
    rw [packthreadkeep_HoleKnows.l1, if_neg (by omega)]
    have hfl : ((List.range n).map (fun j => rd P ((2 * j : Nat) : Int) % 170)).length ≤ 16 := by simp; omega
    have hmem : ∀ j, j < n → rd P ((2 * j : Nat) : Int) % 170 ∈ (List.range n).map (fun j => rd P ((2 * j : Nat) : Int) % 170) := fun j hj => List.mem_map.2 ⟨j, List.mem_range.2 hj, rfl⟩
    obtain ⟨d, l, e, o, s⟩ := heap_knows k P 12 (by decide) _ hfl (fun j _ hj2 => hmem j (by omega)) (by omega)
    obtain ⟨d2, l2, e2, o2, s2⟩ := heap_knows k (T ++ P) 24 (by decide) _ hfl (fun j hj1 hj2 => by
      by_cases c : j < i
      · obtain ⟨i2, h1, h2, h3⟩ := hT.2 j c
        rw [rd_left _ _ _ (by rw [hT.1]; omega), h2]
        exact hmem i2 h1
      · rw [rd_right _ _ (2 * j) (2 * (j - i)) (by rw [hT.1]; omega)]
        exact hmem (j - i) (by rw [List.length_append, hT.1] at hj2; omega)) (by omega)
    have hc : d = d2 ∧ l = l2 := by
      refine canon d d2 l l2 o.1 o2.1 fun y => (s y).trans (Iff.trans ?_ (s2 y).symm)
      constructor
      · rintro (h | ⟨j, h1, h2, h3⟩)
        · exact .inl h
        · refine .inr ⟨j + i, by omega, by rw [List.length_append, hT.1]; omega, ?_⟩
          unfold Inj at *
          rw [rd_right T P (2 * (j + i)) (2 * j) (by rw [hT.1]; omega), rd_right T P (2 * (j + i) + 1) (2 * j + 1) (by rw [hT.1]; omega)]
          exact h3
      · rintro (h | ⟨j, h1, h2, h3⟩)
        · exact .inl h
        · rw [List.length_append, hT.1] at h2
          unfold Inj at h3
          by_cases c : j < i
          · obtain ⟨i2, g1, g2, g3⟩ := hT.2 j c
            rw [rd_left _ _ _ (by rw [hT.1]; omega), rd_left _ _ _ (by rw [hT.1]; omega), g2, g3] at h3
            exact .inr ⟨i2, by omega, by omega, h3⟩
          · rw [rd_right T P (2 * j) (2 * (j - i)) (by rw [hT.1]; omega), rd_right T P (2 * j + 1) (2 * (j - i) + 1) (by rw [hT.1]; omega)] at h3
            exact .inr ⟨j - i, by omega, by omega, h3⟩
    obtain ⟨rfl, rfl⟩ := hc
    have e' : packthreadkeep_Heap.f k P 12 = some (d, l, true) := e
    have e2' : packthreadkeep_Heap.f k (T ++ P) 24 = some (d, l, true) := e2
    rw [e', Option.bind_some, if_pos (by rw [hT.1]; omega), e2', Option.bind_some]
    show (if true = true then if true = true then if d = d then (packthreadkeep_sameRanges.f k l l).bind (fun t194 => packthreadkeep_HoleKnows.j3 k x2 P n d l (!t194)) else _ else _ else _) = some true
    rw [if_pos rfl, if_pos rfl, if_pos rfl, same_eq k l (by have := o.2.2.2; omega) (by omega), Option.bind_some]
    obtain ⟨k, rfl⟩ : ∃ q, k = q + 1 := ⟨k - 1, by omega⟩
    rw [packthreadkeep_HoleKnows.j3, if_neg (by decide), picked_eq _ _ (by decide) (by decide), Option.bind_some]
    have hy : 0 ≤ x2 % 220 := by omega
    generalize x2 % 220 = y at *
    obtain ⟨b1, b2, e3, h1, h2⟩ := want_l2 P n hP hn d l o.2.2.2 y n 0 k false (by omega) (by omega)
    rw [show (0 : Int) = ((0 : Nat) : Int) from rfl, e3]
    have hb : b1 = b2 := by
      rw [Bool.eq_iff_iff, h1, h2, s y]
      constructor
      · rintro (h | ⟨j, g1, g2, g3⟩)
        · omega
        · exact .inr ⟨j, by omega, by omega, g3⟩
      · rintro (h | ⟨j, g1, g2, g3⟩)
        · cases h
        · exact .inr ⟨j, by omega, by omega, g3⟩
    rw [hb, beq_self_eq_true]
  | succ m ih =>
    intro i k T hi hk hT
    obtain ⟨k, rfl⟩ : ∃ q, k = q + 1 := ⟨k - 1, by omega⟩
    have hw1 : wrap64 ((i : Int) + 1) = ((i + 1 : Nat) : Int) := by rw [wrap64_id (by omega) (by omega)]; omega
    have g0 := Int.emod_nonneg x1 (show (n : Int) ≠ 0 by omega)
    have g1 := Int.emod_lt_of_pos x1 (show 0 < (n : Int) by omega)
    rw [packthreadkeep_HoleKnows.l1, if_pos (by omega), picked_eq _ _ (by omega) (by omega), Option.bind_some, if_neg (by omega), wrap64_id (x := (i : Int) + x1 % (n : Int)) (by omega) (by omega)]
    rw [Int.tmod_eq_emod_of_nonneg (by omega)]
    have g2 := Int.emod_nonneg ((i : Int) + x1 % (n : Int)) (show (n : Int) ≠ 0 by omega)
    have g3 := Int.emod_lt_of_pos ((i : Int) + x1 % (n : Int)) (show 0 < (n : Int) by omega)
    generalize ((i : Int) + x1 % (n : Int)) % (n : Int) = c at *
    obtain ⟨q, rfl⟩ := Int.eq_ofNat_of_zero_le g2
    have hw2 : wrap64 (2 * (q : Int)) = ((2 * q : Nat) : Int) := by rw [wrap64_id (by omega) (by omega)]; omega
    have hw3 : wrap64 (((2 * q : Nat) : Int) + 1) = ((2 * q + 1 : Nat) : Int) := by rw [wrap64_id (by omega) (by omega)]; omega
    rw [hw2, hw3, if_pos (by omega), if_pos (by omega), if_pos (by omega), if_pos (by omega), Option.bind_some, if_pos (by simp [hT.1]; omega), hw1]
    exact ih (i + 1) k _ (by omega) (by omega) (subs_cons T P i n q hT (by omega))
theorem l0_eq (L : List Int) (x1 x2 : Int) (_hL : L.length ≤ 9000000000000000000) : ∀ (m q k : Nat) (P : List Int), q + m = 12 → m + 720 < k → P.length = 2 * q → packthreadkeep_HoleKnows.l0 k L x1 x2 P ((2 * q : Nat) : Int) = some true := by
  have fin : ∀ (k q : Nat) (P : List Int), 715 < k → q ≤ 12 → P.length = 2 * q → packthreadkeep_HoleKnows.j1 k x1 x2 P = some true := by
    intro k q P hk hq hP
    obtain ⟨k, rfl⟩ : ∃ q, k = q + 1 := ⟨k - 1, by omega⟩
    rw [packthreadkeep_HoleKnows.j1, hP, show wrap64 (((2 * q : Nat) : Int) / 2) = (q : Int) by rw [wrap64_id (by omega) (by omega)]; omega]
    exact l1_eq x1 x2 P q hP hq q 0 k [] (by omega) (by omega) ⟨rfl, fun j hj => by omega⟩
  intro m
  induction m with
  | zero =>
    intro q k P hq hk hP
    obtain ⟨k, rfl⟩ : ∃ q, k = q + 1 := ⟨k - 1, by omega⟩
    rw [packthreadkeep_HoleKnows.l0, if_neg (c := ((2 * q : Nat) : Int) < 24) (by omega), ite_self]
    exact fin k q P (by omega) (by omega) hP
  | succ m ih =>
    intro q k P hq hk hP
    obtain ⟨k, rfl⟩ : ∃ q, k = q + 1 := ⟨k - 1, by omega⟩
    have hw1 : wrap64 (((2 * q : Nat) : Int) + 1) = ((2 * q + 1 : Nat) : Int) := by rw [wrap64_id (by omega) (by omega)]; omega
    have hw2 : wrap64 (((2 * q : Nat) : Int) + 2) = ((2 * (q + 1) : Nat) : Int) := by rw [wrap64_id (by omega) (by omega)]; omega
    rw [packthreadkeep_HoleKnows.l0, hw1, hw2]
    by_cases c : ((2 * q + 1 : Nat) : Int) < (L.length : Int)
    · rw [if_pos c, if_pos (by omega), if_pos (by omega), if_pos (by omega), if_pos (by omega), Option.bind_some, if_pos (by simp [hP]; omega)]
      exact ih (q + 1) k _ (by omega) (by omega) (by simp [hP]; omega)
    · rw [if_neg c]
      exact fin k q P (by omega) (by omega) hP
theorem HoleKnows : packthreadkeep_HoleKnows.Pure := by
  intro l0 a1 a2 hm _ _ _ _
  obtain ⟨k, hk⟩ : ∃ k, 2000 ≤ k := ⟨2000, Nat.le_refl _⟩
  refine ⟨k, ?_⟩
  have hm' : l0.length ≤ 9000000000000000000 := by unfold maxLen at hm; omega
  unfold packthreadkeep_HoleKnows.f
  exact l0_eq l0 a1 a2 hm' 12 0 k [] (by omega) (by omega) rfl

end Go.Proofs.Ytlgehakaedokeaa.Pure
