/- Proved: for every input the law RecvTwice answers true: what came comes again in vain, also with other bytes: the first that came counts. Condition: none (every list of integers, all numbers). -/
import Derived.Test.YtjbilachfipicaaPRecvTwicex7
namespace Go.Proofs.Ytjbilachfipicaa.Pure
open Go.RowKit Go.Proofs.Ytjbilachfipicaa.PRecvTwice Go.Proofs.YtjbilachfipicaaW.PrintWords Go.Proofs.YtjbilachfipicaaW.PrintLast
set_option linter.unusedVariables false

theorem wrap64_id {x : Int} (h0 : -9223372036854775808 ≤ x) (h1 : x ≤ 9223372036854775807) : wrap64 x = x := by unfold wrap64; omega

theorem picked_eq (a n : Int) (h0 : 0 < n) (h1 : n ≤ 1000000000000) : packthreadkeep_Picked.f a n = some (a % n) := by
  unfold packthreadkeep_Picked.f
  rw [if_neg (by omega)]
  have hm := Int.tmod_eq_emod (a := a) (b := n)
  have hlo := Int.emod_nonneg a (show n ≠ 0 by omega)
  have hhi := Int.emod_lt_of_pos a h0
  by_cases hc : 0 ≤ a ∨ n ∣ a
  · rw [if_pos hc] at hm
    have e : a.tmod n = a % n := by rw [hm]; simp
    rw [e, if_neg (by omega)]
  · rw [if_neg hc] at hm
    have e : a.tmod n = a % n - n := by rw [hm]; congr 1; omega
    rw [e, if_pos (by omega), wrap64_id (by omega) (by omega)]
    congr 1; omega

def Oct (l : List Int) : Prop := ∀ x ∈ l, 0 ≤ x ∧ x ≤ 255
theorem oct_of {l : List Int} (h : ∀ x ∈ l, (Lit.int .u8 x).wf = true) : Oct l := fun x hx => by
  have := h x hx
  simp [Lit.wf, IntKind.min, IntKind.max, IntKind.signed, IntKind.bits] at this
  omega
theorem Oct.take {l : List Int} (h : Oct l) (n : Nat) : Oct (l.take n) := fun x hx => h x (List.mem_of_mem_take hx)
theorem Oct.append {a b : List Int} (h : Oct a) (g : Oct b) : Oct (a ++ b) := fun x hx => by
  rcases List.mem_append.1 hx with h1 | h1
  · exact h x h1
  · exact g x h1
theorem Oct.set {l : List Int} (h : Oct l) (i : Nat) (v : Int) (h0 : 0 ≤ v) (h1 : v ≤ 255) : Oct (l.set i v) := fun x hx => by
  rcases List.mem_or_eq_of_mem_set hx with h2 | h2
  · exact h x h2
  · subst h2; exact ⟨h0, h1⟩
theorem Oct.getD {l : List Int} (h : Oct l) (i : Nat) : 0 ≤ l.getD i 0 ∧ l.getD i 0 ≤ 255 := by
  by_cases c : i < l.length
  · rw [List.getD_eq_getElem?_getD, List.getElem?_eq_getElem c]; exact h _ (List.getElem_mem c)
  · rw [List.getD_eq_getElem?_getD, List.getElem?_eq_none (by omega)]; simp

theorem stream_l0 (c : Int) (n : Nat) (hn : n ≤ 100000) : ∀ (m i k : Nat) (x : List Int), i + m = n → m < k → x.length = i → Oct x → ∃ y, packthreadkeep_Stream.l0 k c (n : Int) x (i : Int) = some y ∧ y.length = n ∧ Oct y := by
  intro m
  induction m with
  | zero =>
    intro i k x h1 h2 h3 h4
    obtain ⟨k, rfl⟩ : ∃ q, k = q + 1 := ⟨k - 1, by omega⟩
    exact ⟨x, by rw [packthreadkeep_Stream.l0, if_neg (by omega)], by omega, h4⟩
  | succ m ih =>
    intro i k x h1 h2 h3 h4
    obtain ⟨k, rfl⟩ : ∃ q, k = q + 1 := ⟨k - 1, by omega⟩
    rw [packthreadkeep_Stream.l0, if_pos (by omega), picked_eq _ _ (by decide) (by decide), Option.bind_some, if_pos (by omega), wrap64_id (x := (i : Int) + 1) (by omega) (by omega), show (i : Int) + 1 = ((i + 1 : Nat) : Int) by omega]
    refine ih (i + 1) k _ (by omega) (by omega) (by rw [List.length_append]; simp; omega) ?_
    refine h4.append ?_
    intro y hy
    rw [List.mem_singleton] at hy
    rw [hy]
    omega
theorem stream_eq (c : Int) (n : Nat) (hn : n ≤ 100000) (k : Nat) (hk : n < k) : ∃ y, packthreadkeep_Stream.f k c (n : Int) = some y ∧ y.length = n ∧ Oct y := by
  unfold packthreadkeep_Stream.f
  exact stream_l0 c n hn n 0 k [] (by omega) (by omega) rfl (fun x hx => by simp at hx)

theorem sameb_l0 (l : List Int) (hL : l.length ≤ 100000) : ∀ (m i k : Nat), i + m = l.length → m < k → packthreadkeep_sameBytes.l0 k l l (i : Int) = some true := by
  intro m
  induction m with
  | zero =>
    intro i k hi hk
    obtain ⟨k, rfl⟩ : ∃ q, k = q + 1 := ⟨k - 1, by omega⟩
    rw [packthreadkeep_sameBytes.l0, if_neg (by omega)]
  | succ m ih =>
    intro i k hi hk
    obtain ⟨k, rfl⟩ : ∃ q, k = q + 1 := ⟨k - 1, by omega⟩
    have hw1 : wrap64 ((i : Int) + 1) = ((i + 1 : Nat) : Int) := by rw [wrap64_id (by omega) (by omega)]; omega
    rw [packthreadkeep_sameBytes.l0, if_pos (by omega), if_pos (by omega), if_pos (by omega), if_pos rfl, hw1]
    exact ih (i + 1) k (by omega) (by omega)
theorem sameb_eq (k : Nat) (l : List Int) (hL : l.length ≤ 100000) (hk : l.length < k) : packthreadkeep_sameBytes.f k l l = some true := by
  unfold packthreadkeep_sameBytes.f
  rw [if_pos rfl]
  exact sameb_l0 l hL l.length 0 k (by omega) (by omega)

def Ch : Int → List S56 → Prop
  | _, [] => True
  | lo, r :: t => lo < r.f0 ∧ r.f0 < r.f1 ∧ Ch r.f1 t
def En : Int → List S56 → Int
  | lo, [] => lo
  | _, r :: t => En r.f1 t
def InR : List S56 → Int → Prop
  | [], _ => False
  | r :: t, y => (r.f0 ≤ y ∧ y < r.f1) ∨ InR t y
theorem ch_append : ∀ (a b : List S56) (lo : Int), Ch lo (a ++ b) ↔ Ch lo a ∧ Ch (En lo a) b
  | [], b, lo => by simp [Ch, En]
  | r :: t, b, lo => by
    rw [List.cons_append]
    simp only [Ch, En]
    rw [ch_append t b r.f1]
    constructor
    · rintro ⟨h1, h2, h3, h4⟩
      exact ⟨⟨h1, h2, h3⟩, h4⟩
    · rintro ⟨⟨h1, h2, h3⟩, h4⟩
      exact ⟨h1, h2, h3, h4⟩
theorem en_append : ∀ (a b : List S56) (lo : Int), En lo (a ++ b) = En (En lo a) b
  | [], b, lo => rfl
  | r :: t, b, lo => by
    rw [List.cons_append]
    simp only [En]
    exact en_append t b r.f1
theorem in_append : ∀ (a b : List S56) (y : Int), InR (a ++ b) y ↔ InR a y ∨ InR b y
  | [], b, y => by simp [InR]
  | r :: t, b, y => by
    rw [List.cons_append]
    simp only [InR]
    rw [in_append t b y, or_assoc]
theorem ch_le_en : ∀ (l : List S56) (lo : Int), Ch lo l → lo ≤ En lo l
  | [], lo, _ => Int.le_refl _
  | r :: t, lo, h => by
    obtain ⟨h1, h2, h3⟩ := h
    have := ch_le_en t r.f1 h3
    simp only [En]
    omega
theorem ch_in : ∀ (l : List S56) (lo y : Int), Ch lo l → InR l y → lo < y ∧ y < En lo l
  | [], lo, y, _, h => h.elim
  | r :: t, lo, y, h, hi => by
    obtain ⟨h1, h2, h3⟩ := h
    have e := ch_le_en t r.f1 h3
    simp only [En]
    rcases hi with hi | hi
    · omega
    · have := ch_in t r.f1 y h3 hi
      omega
theorem ch_low : ∀ (l : List S56) (lo lo' : Int), Ch lo l → lo' ≤ lo → Ch lo' l
  | [], _, _, _, _ => True.intro
  | r :: t, lo, lo', h, hl => ⟨by have := h.1; omega, h.2⟩
theorem en_ne : ∀ (l : List S56) (lo lo' : Int), l ≠ [] → En lo l = En lo' l
  | [], _, _, h => absurd rfl h
  | _ :: _, _, _, _ => rfl
theorem drop_rd (l : List S56) (i : Nat) (h : i < l.length) : l.drop i = rd_T56 l (i : Int) :: l.drop (i + 1) := by
  rw [List.drop_eq_getElem_cons h]
  congr 1
  unfold rd_T56
  simp [h]
theorem ch_count : ∀ (l : List S56) (lo : Int) (fs : List Int), Ch lo l → (∀ r, r ∈ l → r.f0 ∈ fs) → l.length ≤ fs.length
  | [], _, _, _, _ => Nat.zero_le _
  | r :: t, lo, fs, h, hf => by
    obtain ⟨h1, h2, h3⟩ := h
    have hm := hf r List.mem_cons_self
    have far : ∀ (t : List S56) (lo : Int), Ch lo t → ∀ q, q ∈ t → lo < q.f0 := by
      intro t
      induction t with
      | nil => intro lo _ q hq; cases hq
      | cons a t ih =>
        intro lo ha q hq
        rcases List.mem_cons.1 hq with rfl | hq
        · exact ha.1
        · have := ih a.f1 ha.2.2 q hq
          have := ha.1
          have := ha.2.1
          omega
    have := ch_count t r.f1 (fs.erase r.f0) h3 (fun q hq => by
      have hq1 := far t r.f1 h3 q hq
      exact (List.mem_erase_of_ne (by omega)).2 (hf q (List.mem_cons_of_mem _ hq)))
    have hp : 0 < fs.length := List.length_pos_of_mem hm
    rw [List.length_erase_of_mem hm] at this
    rw [List.length_cons]
    omega
def Okay (d : Int) (l : List S56) : Prop := Ch d l ∧ 0 ≤ d ∧ En d l ≤ 1048576 ∧ l.length ≤ 16
theorem may_l0 (d : Int) (x1 l : List S56) (hL : l.length ≤ 100) : ∀ (m i k : Nat) (lo : Int), i + m = l.length → m < k →
    ∃ b, hole_May.l0 k d x1 lo l (l.length : Int) (i : Int) = some b ∧ (b = true ↔ (Ch lo (l.drop i) ∧ 0 ≤ d ∧ En lo (l.drop i) ≤ 1048576 ∧ d ≤ 1048576 ∧ x1.length ≤ 16)) := by
  intro m
  induction m with
  | zero =>
    intro i k lo hi hk
    obtain ⟨k, rfl⟩ : ∃ q, k = q + 1 := ⟨k - 1, by omega⟩
    rw [hole_May.l0, if_neg (by omega), List.drop_eq_nil_of_le (by omega)]
    simp only [Ch, En]
    by_cases h1 : d ≥ 0
    · rw [if_pos h1]
      by_cases h2 : lo ≤ 1048576
      · rw [if_pos h2]
        by_cases h3 : d ≤ 1048576
        · rw [if_pos h3]
          exact ⟨_, rfl, by rw [decide_eq_true_iff]; exact ⟨fun h => ⟨True.intro, by omega, by omega, by omega, by omega⟩, fun h => by have := h.2.2.2.2; omega⟩⟩
        · rw [if_neg h3]
          exact ⟨_, rfl, by simp; omega⟩
      · rw [if_neg h2]
        exact ⟨_, rfl, by simp; omega⟩
    · rw [if_neg h1]
      exact ⟨_, rfl, by simp; omega⟩
  | succ m ih =>
    intro i k lo hi hk
    obtain ⟨k, rfl⟩ : ∃ q, k = q + 1 := ⟨k - 1, by omega⟩
    rw [hole_May.l0, if_pos (by omega), if_pos (by omega), if_pos (by omega), drop_rd l i (by omega)]
    generalize rd_T56 l (i : Int) = r
    simp only [Ch, En]
    by_cases h1 : r.f0 ≤ lo
    · rw [if_pos h1]
      exact ⟨_, rfl, by simp; omega⟩
    · rw [if_neg h1]
      by_cases h2 : r.f0 ≥ r.f1
      · rw [if_pos h2]
        exact ⟨_, rfl, by simp; omega⟩
      · rw [if_neg h2, wrap64_id (by omega) (by omega), show ((i : Int) + 1) = ((i + 1 : Nat) : Int) by omega]
        obtain ⟨b, e, hb⟩ := ih (i + 1) k r.f1 (by omega) (by omega)
        refine ⟨b, e, hb.trans ⟨fun h => ⟨⟨by omega, by omega, h.1⟩, h.2⟩, fun h => ⟨h.1.2.2, h.2⟩⟩⟩
theorem may_eq (k : Nat) (d : Int) (l : List S56) (hL : l.length ≤ 100) (hk : 101 < k) : ∃ b, hole_May.f k d l = some b ∧ (b = true ↔ Okay d l) := by
  obtain ⟨b, e, hb⟩ := may_l0 d l l hL l.length 0 k d (by omega) (by omega)
  refine ⟨b, by unfold hole_May.f; exact e, hb.trans ?_⟩
  rw [List.drop_zero]
  constructor
  · rintro ⟨h1, h2, h3, _, h5⟩
    exact ⟨h1, h2, h3, h5⟩
  · rintro ⟨h1, h2, h3, h5⟩
    have := ch_le_en l d h1
    exact ⟨h1, h2, h3, by omega, h5⟩
theorem may_ok (k : Nat) (d : Int) (l : List S56) (h : Okay d l) (hk : 101 < k) : hole_May.f k d l = some true := by
  obtain ⟨b, e, hb⟩ := may_eq k d l (by have := h.2.2.2; omega) hk
  rw [e, hb.2 h]
theorem clone_eq (l : List S56) (h : l.length ≤ 100) : api_Range_73.f l = some l := by
  unfold api_Range_73.f
  rw [Option.bind_some, if_pos (by simp; omega), List.nil_append]
theorem concat3 (k : Nat) (A B : List S56) (x : S56) (hA : A.length ≤ 100) (hB : B.length ≤ 100) (hk : 10 ≤ k) : api_Range_61.f k [A, [x], B] = some (A ++ [x] ++ B) := by
  obtain ⟨k, rfl⟩ : ∃ q, k = q + 10 := ⟨k - 10, by omega⟩
  have r0 : rd_L6 [A, [x], B] 0 = A := rfl
  have r1 : rd_L6 [A, [x], B] 1 = [x] := rfl
  have r2 : rd_L6 [A, [x], B] 2 = B := rfl
  have l3 : (([A, [x], B] : List (List S56)).length : Int) = 3 := rfl
  have l1 : ([x].length : Int) = 1 := rfl
  have w1 : wrap64 (0 + (A.length : Int)) = A.length := by rw [wrap64_id (by omega) (by omega)]; omega
  have w2 : wrap64 ((A.length : Int) + 1) = A.length + 1 := wrap64_id (by omega) (by omega)
  have w3 : wrap64 ((A.length : Int) + 1 + B.length) = A.length + 1 + B.length := wrap64_id (by omega) (by omega)
  have i1 : wrap64 (0 + 1) = 1 := wrap64_id (by decide) (by decide)
  have i2 : wrap64 (1 + 1) = 2 := wrap64_id (by decide) (by decide)
  have i3 : wrap64 (2 + 1) = 3 := wrap64_id (by decide) (by decide)
  unfold api_Range_61.f
  rw [l3, api_Range_61.l0, if_pos (by decide), if_pos (by decide), if_pos (by rw [l3]; decide), r0, w1, if_neg (by omega), i1]
  rw [api_Range_61.l0, if_pos (by decide), if_pos (by decide), if_pos (by rw [l3]; decide), r1, l1, w2, if_neg (by omega), i2]
  rw [api_Range_61.l0, if_pos (by decide), if_pos (by decide), if_pos (by rw [l3]; decide), r2, w3, if_neg (by omega), i3]
  rw [api_Range_61.l0, if_neg (by decide), if_pos (by omega), if_pos (by omega), l3]
  rw [api_Range_61.l1, if_pos (by decide), if_pos (by decide), if_pos (by rw [l3]; decide), r0, if_pos (by simp; omega), i1, List.nil_append]
  rw [api_Range_61.l1, if_pos (by decide), if_pos (by decide), if_pos (by rw [l3]; decide), r1, if_pos (by simp; omega), i2]
  rw [api_Range_61.l1, if_pos (by decide), if_pos (by decide), if_pos (by rw [l3]; decide), r2, if_pos (by simp; omega), i3]
  rw [api_Range_61.l1, if_neg (by decide)]
theorem mn_eq (a b : Int) : mn a b = min a b := by unfold mn; omega
theorem mx_eq (a b : Int) : mx a b = max a b := by unfold mx; omega
theorem merged_l0 (d : Int) (l : List S56) (S : Int → Prop) (F : Int → Prop) (hl : l.length ≤ 16) (_hd : 0 ≤ d) : ∀ (m i k : Nat) (A B : List S56) (a b low : Int), i + m = l.length → m + 10 < k →
    d ≤ low → Ch low (l.drop i) → Ch d A → (En d A < a ∨ A = []) → En d A ≤ low → a < b → Ch (max b d) B → (B ≠ [] → En b B = low) → b ≤ 1048576 → En b B ≤ 1048576 → En low (l.drop i) ≤ 1048576 →
    A.length + B.length + (l.length - i) ≤ 16 → (∀ y, (InR A y ∨ (a ≤ y ∧ y < b) ∨ InR B y ∨ InR (l.drop i) y) ↔ S y) → (∀ r, r ∈ A → F r.f0) → (∀ r, r ∈ B → F r.f0) → F a → (∀ r, r ∈ l.drop i → F r.f0) →
    ∃ d' l', hole_merged.l0 k d A B l (l.length : Int) (i : Int) a b = some (d', l') ∧ Ch d' l' ∧ En d' l' ≤ 1048576 ∧ d ≤ d' ∧ (∀ y, (y < d' ∨ InR l' y) ↔ (y < d ∨ S y)) ∧ (∀ r, r ∈ l' → F r.f0) ∧ l'.length ≤ A.length + B.length + (l.length - i) + 1 := by
  intro m
  induction m with
  | zero =>
    intro i k A B a b low hi hk h1 h2 h3 h4 h5 h6 h7 h8 h9 h10 h11 h12 h13 f1 f2 f3 f4
    obtain ⟨k, rfl⟩ : ∃ q, k = q + 1 := ⟨k - 1, by omega⟩
    rw [hole_merged.l0, if_neg (by omega)]
    have hnil : l.drop i = [] := List.drop_eq_nil_of_le (by omega)
    have hlow := ch_le_en _ _ h2
    rw [hnil] at h13
    simp only [InR, or_false] at h13
    by_cases c : a ≤ d
    · rw [if_pos c, mx_eq]
      have hA : A = [] := by
        rcases h4 with h4 | h4
        · have := ch_le_en A d h3
          omega
        · exact h4
      subst hA
      simp only [InR, false_or] at h13
      refine ⟨max d b, B, rfl, ch_low _ _ _ h7 (by omega), ?_, by omega, fun y => ?_, f2, by omega⟩
      · by_cases hB : B = []
        · subst hB
          simp only [En]
          omega
        · rw [en_ne B (max d b) b hB]
          exact h10
      · rw [← h13]
        by_cases hb : InR B y
        · simp only [hb, or_true]
        · simp only [hb, or_false]
          omega
    · rw [if_neg c, concat3 _ _ _ _ (by omega) (by omega) (by omega), Option.bind_some]
      refine ⟨d, A ++ [⟨a, b⟩] ++ B, rfl, ?_, ?_, Int.le_refl _, fun y => ?_, fun r hr => ?_, by simp; omega⟩
      · rw [ch_append, ch_append, en_append]
        simp only [Ch, En]
        refine ⟨⟨h3, ?_, h6, True.intro⟩, ch_low _ _ _ h7 (by omega)⟩
        rcases h4 with h4 | h4
        · exact h4
        · subst h4
          simp only [En]
          omega
      · rw [en_append, en_append]
        simp only [En]
        exact h10
      · rw [← h13, in_append, in_append]
        simp only [InR, or_false, or_assoc]
      · rcases List.mem_append.1 hr with hr | hr
        · rcases List.mem_append.1 hr with hr | hr
          · exact f1 r hr
          · rw [List.mem_singleton.1 hr]
            exact f3
        · exact f2 r hr
  | succ m ih =>
    intro i k A B a b low hi hk h1 h2 h3 h4 h5 h6 h7 h8 h9 h10 h11 h12 h13 f1 f2 f3 f4
    obtain ⟨k, rfl⟩ : ∃ q, k = q + 1 := ⟨k - 1, by omega⟩
    rw [hole_merged.l0, if_pos (by omega), if_pos (by omega), if_pos (by omega)]
    rw [drop_rd l i (by omega)] at h2 h11 h13 f4
    revert h2 h11 h13 f4
    generalize rd_T56 l (i : Int) = x
    intro h2 h11 h13 f4
    obtain ⟨g1, g2, g3⟩ := h2
    simp only [En] at h11
    simp only [InR] at h13
    have fx := f4 x List.mem_cons_self
    have f4' : ∀ r, r ∈ l.drop (i + 1) → F r.f0 := fun r hr => f4 r (List.mem_cons_of_mem _ hr)
    have hx := ch_le_en _ _ g3
    have eB : B ≠ [] → b < low := fun hB => by
      have := h8 hB
      cases B with
      | nil => exact absurd rfl hB
      | cons r t =>
        have h71 := h7.1
        have h72 := h7.2.1
        have := ch_le_en t r.f1 h7.2.2
        simp only [En] at *
        omega
    have hw : wrap64 ((i : Int) + 1) = ((i + 1 : Nat) : Int) := by rw [wrap64_id (by omega) (by omega)]; omega
    have ex : (⟨x.f0, x.f1⟩ : S56) = x := rfl
    rw [hw, ex]
    by_cases c1 : x.f1 < a
    · rw [if_pos c1, if_pos (by omega)]
      have hB : B = [] := by
        by_cases hB : B = []
        · exact hB
        · have := eB hB
          omega
      subst hB
      obtain ⟨d', l', e, p1, p2, p3, p4, p5, p6⟩ := ih (i + 1) k (A ++ [x]) [] a b x.f1 (by omega) (by omega) (by omega) g3 (by rw [ch_append]; exact ⟨h3, by simp only [Ch]; exact ⟨by omega, g2, True.intro⟩⟩) (.inl (by rw [en_append]; simp only [En]; omega)) (by rw [en_append]; simp only [En]; omega) h6 True.intro (fun h => absurd rfl h) h9 h10 h11 (by simp only [List.length_append, List.length_cons, List.length_nil] at *; omega) (fun y => by
        rw [← h13 y, in_append]
        simp only [InR, or_false, false_or]
        rw [or_assoc, or_left_comm (a := a ≤ y ∧ y < b)]) (fun r hr => by
        rcases List.mem_append.1 hr with hr | hr
        · exact f1 r hr
        · rw [List.mem_singleton.1 hr]
          exact fx) f2 f3 f4'
      exact ⟨d', l', e, p1, p2, p3, p4, p5, by simp only [List.length_append, List.length_cons, List.length_nil] at *; omega⟩
    · rw [if_neg c1]
      by_cases c2 : x.f0 > b
      · rw [if_pos c2, if_pos (by omega)]
        obtain ⟨d', l', e, p1, p2, p3, p4, p5, p6⟩ := ih (i + 1) k A (B ++ [x]) a b x.f1 (by omega) (by omega) (by omega) g3 h3 h4 (by omega) h6 (by
          rw [ch_append]
          refine ⟨h7, ?_⟩
          simp only [Ch]
          refine ⟨?_, g2, True.intro⟩
          by_cases hB : B = []
          · subst hB
            simp only [En]
            omega
          · rw [en_ne B _ b hB, h8 hB]
            exact g1) (fun _ => by rw [en_append]; rfl) h9 (by rw [en_append]; simp only [En]; omega) h11 (by simp only [List.length_append, List.length_cons, List.length_nil] at *; omega) (fun y => by
          rw [← h13 y, in_append]
          simp only [InR, or_false, or_assoc]) f1 (fun r hr => by
          rcases List.mem_append.1 hr with hr | hr
          · exact f2 r hr
          · rw [List.mem_singleton.1 hr]
            exact fx) f3 f4'
        exact ⟨d', l', e, p1, p2, p3, p4, p5, by simp only [List.length_append, List.length_cons, List.length_nil] at *; omega⟩
      · rw [if_neg c2, mn_eq, mx_eq]
        have hB : B = [] := by
          by_cases hB : B = []
          · exact hB
          · have := eB hB
            omega
        subst hB
        obtain ⟨d', l', e, p1, p2, p3, p4, p5, p6⟩ := ih (i + 1) k A [] (min a x.f0) (max b x.f1) x.f1 (by omega) (by omega) (by omega) g3 h3 (by rcases h4 with h4 | h4; exact .inl (by omega); exact .inr h4) (by omega) (by omega) True.intro (fun h => absurd rfl h) (by omega) (by simp only [En]; omega) h11 (by simp only [List.length_nil] at *; omega) (fun y => by
          rw [← h13 y]
          simp only [InR, false_or]
          by_cases q1 : InR A y
          · simp only [q1, true_or]
          · by_cases q2 : InR (l.drop (i + 1)) y
            · simp only [q2, or_true]
            · simp only [q1, q2, or_false, false_or]
              omega) f1 f2 (by
          by_cases c3 : a ≤ x.f0
          · rw [Int.min_eq_left c3]; exact f3
          · rw [Int.min_eq_right (by omega)]; exact fx) f4'
        exact ⟨d', l', e, p1, p2, p3, p4, p5, by omega⟩
theorem add_eq (k : Nat) (d : Int) (l : List S56) (a b : Int) (h : Okay d l) (h0 : 0 ≤ a) (h1 : a ≤ b) (h2 : b ≤ 1048576) (hk : 200 < k) :
    (hole_Add.f k d l a b = some (0, [], 9) ∧ l.length = 16 ∧ ∃ d2 l2, Ch d2 l2 ∧ 16 < l2.length ∧ (∀ r, r ∈ l2 → r.f0 = a ∨ ∃ q, q ∈ l ∧ q.f0 = r.f0) ∧ ∀ y, (y < d2 ∨ InR l2 y) ↔ ((y < d ∨ InR l y) ∨ (a ≤ y ∧ y < b))) ∨
    ∃ d' l', hole_Add.f k d l a b = some (d', l', 0) ∧ Okay d' l' ∧ d ≤ d' ∧ (∀ y, (y < d' ∨ InR l' y) ↔ ((y < d ∨ InR l y) ∨ (a ≤ y ∧ y < b))) ∧ ∀ r, r ∈ l' → r.f0 = a ∨ ∃ q, q ∈ l ∧ q.f0 = r.f0 := by
  unfold hole_Add.f
  rw [may_ok k d l h (by omega), Option.bind_some, if_pos rfl, if_neg (by omega), if_neg (by omega), if_neg (by omega)]
  obtain ⟨o1, o2, o3, o4⟩ := h
  by_cases c : a < b
  · rw [if_pos c]
    obtain ⟨d', l', e, p1, p2, p3, p4, p5, p6⟩ := merged_l0 d l (fun y => (a ≤ y ∧ y < b) ∨ InR l y) (fun z => z = a ∨ ∃ q, q ∈ l ∧ q.f0 = z) o4 o2 l.length 0 k [] [] a b d (by omega) (by omega) (Int.le_refl _) (by rw [List.drop_zero]; exact o1) True.intro (.inr rfl) (Int.le_refl _) c True.intro (fun h => absurd rfl h) h2 h2 (by rw [List.drop_zero]; exact o3) (by simp only [List.length_nil]; omega) (fun y => by simp only [InR, false_or, List.drop_zero]) (fun r hr => by cases hr) (fun r hr => by cases hr) (.inl rfl) (fun r hr => .inr ⟨r, by simpa using hr, rfl⟩)
    have e' : hole_merged.f k d l a b = some (d', l') := by unfold hole_merged.f; exact e
    simp only [List.length_nil] at p6
    rw [e', Option.bind_some]
    by_cases c2 : (l'.length : Int) > 16
    · rw [if_pos c2]
      exact .inl ⟨rfl, by omega, d', l', p1, by omega, p5, fun y => (p4 y).trans (by rw [or_assoc, or_comm (a := a ≤ y ∧ y < b)])⟩
    · rw [if_neg c2]
      show _ ∨ ∃ _ _, (api_Range_73.f l').bind _ = _ ∧ _
      rw [clone_eq l' (by omega), Option.bind_some]
      refine .inr ⟨d', l', rfl, ⟨p1, by omega, p2, by omega⟩, p3, fun y => (p4 y).trans ?_, p5⟩
      rw [or_assoc, or_comm (a := a ≤ y ∧ y < b)]
  · rw [if_neg c, if_neg (by omega), clone_eq l (by omega), Option.bind_some]
    refine .inr ⟨d, l, rfl, ⟨o1, o2, o3, o4⟩, Int.le_refl _, fun y => ?_, fun r hr => .inr ⟨r, hr, rfl⟩⟩
    constructor
    · exact fun h => .inl h
    · rintro (h | h)
      · exact h
      · omega
theorem okay_nil : Okay 0 [] := ⟨True.intro, Int.le_refl _, by simp only [En]; omega, by simp⟩

theorem canon_l : ∀ (l l' : List S56) (lo : Int), Ch lo l → Ch lo l' → (∀ y, InR l y ↔ InR l' y) → l = l'
  | [], [], _, _, _, _ => rfl
  | [], r :: t, lo, _, h', hs => ((hs r.f0).2 (.inl ⟨Int.le_refl _, h'.2.1⟩)).elim
  | r :: t, [], lo, h, _, hs => ((hs r.f0).1 (.inl ⟨Int.le_refl _, h.2.1⟩)).elim
  | r :: t, r' :: t', lo, h, h', hs => by
    obtain ⟨h1, h2, h3⟩ := h
    obtain ⟨g1, g2, g3⟩ := h'
    have a1 := (hs r.f0).1 (.inl ⟨Int.le_refl _, h2⟩)
    have a2 := (hs r'.f0).2 (.inl ⟨Int.le_refl _, g2⟩)
    have e0 : r.f0 = r'.f0 := by
      have b1 : r'.f0 ≤ r.f0 := by
        rcases a1 with a1 | a1
        · exact a1.1
        · have := (ch_in t' r'.f1 _ g3 a1).1
          omega
      have b2 : r.f0 ≤ r'.f0 := by
        rcases a2 with a2 | a2
        · exact a2.1
        · have := (ch_in t r.f1 _ h3 a2).1
          omega
      omega
    have e1 : r.f1 = r'.f1 := by
      by_cases c : r.f1 < r'.f1
      · rcases (hs r.f1).2 (.inl ⟨by omega, c⟩) with q | q
        · omega
        · have := (ch_in t r.f1 _ h3 q).1
          omega
      · by_cases c : r'.f1 < r.f1
        · rcases (hs r'.f1).1 (.inl ⟨by omega, c⟩) with q | q
          · omega
          · have := (ch_in t' r'.f1 _ g3 q).1
            omega
        · omega
    have er : r = r' := by
      cases r
      cases r'
      simp only at e0 e1
      rw [e0, e1]
    subst er
    rw [canon_l t t' r.f1 h3 g3 (fun y => by
      constructor
      · intro q
        have := (ch_in t r.f1 _ h3 q).1
        rcases (hs y).1 (.inr q) with z | z
        · omega
        · exact z
      · intro q
        have := (ch_in t' r.f1 _ g3 q).1
        rcases (hs y).2 (.inr q) with z | z
        · omega
        · exact z)]
theorem canon (d d' : Int) (l l' : List S56) (h : Ch d l) (h' : Ch d' l') (hs : ∀ y, (y < d ∨ InR l y) ↔ (y < d' ∨ InR l' y)) : d = d' ∧ l = l' := by
  have e : d = d' := by
    by_cases c : d < d'
    · rcases (hs d).2 (.inl c) with q | q
      · omega
      · have := (ch_in l d d h q).1
        omega
    · by_cases c : d' < d
      · rcases (hs d').1 (.inl c) with q | q
        · omega
        · have := (ch_in l' d' d' h' q).1
          omega
      · omega
  subst e
  refine ⟨rfl, canon_l l l' d h h' fun y => ?_⟩
  constructor
  · intro q
    have := (ch_in l d y h q).1
    rcases (hs y).1 (.inr q) with z | z
    · omega
    · exact z
  · intro q
    have := (ch_in l' d y h' q).1
    rcases (hs y).2 (.inr q) with z | z
    · omega
    · exact z

/-! ### who hears: what is kept true -/
def Cov (d : Int) (l : List S56) (y : Int) : Prop := y < d ∨ InR l y
instance decInR : (l : List S56) → (y : Int) → Decidable (InR l y)
  | [], _ => isFalse (fun h => h)
  | r :: t, y => @instDecidableOr _ _ inferInstance (decInR t y)
theorem any_came (p : Int) : ∀ (l : List S56), (l.any (cameR p) = true) ↔ InR l p
  | [] => by simp [InR]
  | r :: t => by
    rw [List.any_cons, Bool.or_eq_true, any_came p t]
    simp only [InR, cameR, Bool.and_eq_true, decide_eq_true_iff]
theorem getD_ext (d : List Int) (n q : Nat) (h : q < d.length) : (extD d n).getD q 0 = d.getD q 0 := by
  rw [extD, List.getD_eq_getElem?_getD, List.getD_eq_getElem?_getD, List.getElem?_append_left h]
theorem keepG_getD (more : List S56) : ∀ (b d : List Int) (p q : Nat), p + b.length ≤ d.length → (keepG more d p b).getD q 0 = if p ≤ q ∧ q < p + b.length ∧ ¬ InR more (q : Int) then b.getD (q - p) 0 else d.getD q 0
  | [], d, p, q, _ => by
    rw [keepG, if_neg (by simp only [List.length_nil]; omega)]
  | x :: b, d, p, q, hl => by
    simp only [List.length_cons] at hl ⊢
    rw [keepG, keepG_getD more b _ (p + 1) q (by split <;> (try rw [List.length_set]) <;> omega)]
    by_cases c : p + 1 ≤ q ∧ q < p + 1 + b.length ∧ ¬ InR more (q : Int)
    · rw [if_pos c, if_pos ⟨by omega, by omega, c.2.2⟩, show q - p = (q - (p + 1)) + 1 by omega, List.getD_cons_succ]
    · rw [if_neg c]
      by_cases e : q = p
      · subst e
        by_cases hi : InR more (q : Int)
        · rw [if_pos ((any_came _ _).2 hi), if_neg (fun h => h.2.2 hi)]
        · rw [if_neg (fun h => hi ((any_came _ _).1 h)), if_pos ⟨Nat.le_refl _, by omega, hi⟩, Nat.sub_self, List.getD_eq_getElem?_getD, List.getElem?_set_self (by omega)]
          rfl
      · have hn : ¬ (p ≤ q ∧ q < p + (b.length + 1) ∧ ¬ InR more (q : Int)) := fun h => c ⟨by omega, by omega, h.2.2⟩
        rw [if_neg hn]
        split
        · rfl
        · rw [List.getD_eq_getElem?_getD, List.getD_eq_getElem?_getD, List.getElem?_set_ne (by omega)]
theorem beyond_eq (h : Hr) : beyondF h = En h.done h.more := by
  unfold beyondF
  have key : ∀ (l : List S56) (d : Int), 0 < l.length → (l.getD (l.length - 1) z56).f1 = En d l := by
    intro l
    induction l with
    | nil => intro d h; simp at h
    | cons r t ih =>
      intro d _
      by_cases c : 0 < t.length
      · rw [En, ← ih r.f1 c, List.length_cons, show t.length + 1 - 1 = (t.length - 1) + 1 by omega, List.getD_cons_succ]
      · have : t = [] := List.eq_nil_of_length_eq_zero (by omega)
        subst this
        rfl
  by_cases c : 0 < h.more.length
  · rw [if_pos c]; exact key _ _ c
  · rw [if_neg c]
    have : h.more = [] := List.eq_nil_of_length_eq_zero (by omega)
    rw [this]; rfl
theorem ch_last : ∀ (l : List S56) (d : Int), Ch d l → l ≠ [] → InR l (En d l - 1)
  | [], _, _, h => absurd rfl h
  | r :: t, d, h, _ => by
    by_cases c : t = []
    · subst c
      exact .inl ⟨by have := h.2.1; simp only [En]; omega, by simp only [En]; omega⟩
    · exact .inr (ch_last t r.f1 h.2.2 c)
structure HInv (s : List Int) (r : Int) (cl : Bool) (h : Hr) : Prop where
  ok : Okay h.done h.more
  room : h.room = r
  tk : 0 ≤ h.taken ∧ h.taken ≤ h.done
  lim : ∀ q : Int, Cov h.done h.more q → q < h.taken + r ∧ q < s.length
  dat : ∀ q : Nat, Cov h.done h.more (q : Int) → q < h.data.length ∧ h.data.getD q 0 = s.getD q 0
  dl : h.data.length ≤ s.length
  en : h.en = -1 ∨ (cl = true ∧ h.en = s.length)
theorem HInv.done_le {s : List Int} {r : Int} {cl : Bool} {h : Hr} (I : HInv s r cl h) (hr : 0 ≤ r) : h.done ≤ h.taken + r ∧ h.done ≤ s.length := by
  by_cases c : h.done ≤ 0
  · have := I.tk; omega
  · have := I.lim (h.done - 1) (.inl (by omega)); omega
theorem HInv.en_le {s : List Int} {r : Int} {cl : Bool} {h : Hr} (I : HInv s r cl h) (hr : 0 ≤ r) : En h.done h.more ≤ s.length := by
  by_cases c : h.more = []
  · rw [c]; exact (I.done_le hr).2
  · have := I.lim _ (.inr (ch_last _ _ I.ok.1 c)); omega
theorem HInv.okHr {s : List Int} {r : Int} {cl : Bool} {h : Hr} (I : HInv s r cl h) (hr : 0 ≤ r ∧ r ≤ 4096) (hs : s.length ≤ 100000) : okH h := by
  have h1 := I.done_le hr.1
  have h2 := I.tk
  have h3 := I.dl
  have h4 := I.ok.2.2.2
  have h5 := I.room
  unfold okH
  refine ⟨by omega, by omega, by omega, by omega, by omega, ?_⟩
  rcases I.en with e | ⟨_, e⟩ <;> omega
theorem hinv_new (s : List Int) (r : Int) (cl : Bool) (hr : 0 ≤ r) : HInv s r cl (h0F r) :=
  ⟨⟨True.intro, Int.le_refl _, by simp only [h0F, En]; omega, by simp [h0F]⟩, rfl, ⟨Int.le_refl _, Int.le_refl _⟩, fun q hq => by simp only [h0F, Cov, InR, or_false] at hq ⊢; omega, fun q hq => by simp only [h0F, Cov, InR, or_false] at hq; omega, by simp [h0F], .inl rfl⟩
theorem getD_mid (b : List Int) (m n i : Nat) : ((b.take n).drop m).getD i 0 = if m + i < n then b.getD (m + i) 0 else 0 := by
  rw [List.getD_eq_getElem?_getD, List.getElem?_drop, List.getElem?_take]
  split
  · rw [List.getD_eq_getElem?_getD]
  · rfl
/-- what touches what is done needs no more room -/
theorem full_no (d : Int) (l : List S56) (a b d2 : Int) (l2 : List S56) (hl : l.length ≤ 16) (ha : a ≤ d) (hab : a < b) (hch : Ch d2 l2) (hst : ∀ r, r ∈ l2 → r.f0 = a ∨ ∃ q, q ∈ l ∧ q.f0 = r.f0) (hcv : ∀ y, (y < d2 ∨ InR l2 y) ↔ ((y < d ∨ InR l y) ∨ (a ≤ y ∧ y < b))) : l2.length ≤ 16 := by
  have h1 : a < d2 := by
    by_cases c : a < d2
    · exact c
    · have h2 := (hcv d2).2 (by by_cases e : d2 < d; exact .inl (.inl e); exact .inr (by omega))
      rcases h2 with h2 | h2
      · omega
      · have := (ch_in l2 d2 d2 hch h2).1; omega
  have far : ∀ (t : List S56) (lo : Int), Ch lo t → ∀ q, q ∈ t → lo < q.f0 := by
    intro t
    induction t with
    | nil => intro lo _ q hq; cases hq
    | cons x t ih =>
      intro lo ha q hq
      rcases List.mem_cons.1 hq with rfl | hq
      · exact ha.1
      · have := ih x.f1 ha.2.2 q hq
        have := ha.1
        have := ha.2.1
        omega
  have h3 := ch_count l2 d2 (l.map (·.f0)) hch (fun r hr => by
    rcases hst r hr with e | ⟨q, hq, e⟩
    · have := far l2 d2 hch r hr; omega
    · exact List.mem_map.2 ⟨q, hq, e⟩)
  rw [List.length_map] at h3
  omega
theorem arr_ok {s : List Int} {r : Int} {cl : Bool} {h : Hr} (I : HInv s r cl h) (hr : 1 ≤ r ∧ r ≤ 4096) (hs : s.length ≤ 100000) (fr : Nat) (b : List Int) (hn : fr + b.length ≤ s.length) (h64 : b.length ≤ 64) (hb : ∀ i, i < b.length → b.getD i 0 = s.getD (fr + i) 0) (fin : Bool) (hf : fin = true → cl = true ∧ fr + b.length = s.length) :
    ∃ c h', arriveF h (fr : Int) b fin = some (c, h') ∧ HInv s r cl h' ∧ h'.taken = h.taken ∧ h.done ≤ h'.done ∧ ((c = 9 ∧ h' = h ∧ h.more.length = 16 ∧ h.done < fr) ∨ (c = 0 ∧ (∀ y, Cov h'.done h'.more y ↔ (Cov h.done h.more y ∨ (max (fr : Int) h.done ≤ y ∧ y < min ((fr : Int) + b.length) (h.taken + r)))) ∧ h'.en = if fin = true then (s.length : Int) else h.en)) := by
  have hd := I.done_le (by omega)
  have he := I.en_le (by omega)
  have htk := I.tk
  have hen := I.en
  unfold arriveF
  rw [if_neg (by omega), if_neg (by omega)]
  have hbad : badA h (fr : Int) b.length fin = false := by
    unfold badA
    rw [beyond_eq]
    have e1 : decide ((fr : Int) + b.length < h.en) = decide ((fr : Int) + b.length < h.en) := rfl
    cases fin with
    | false =>
      simp only [Bool.false_and, Bool.or_false, Bool.and_eq_false_iff, decide_eq_false_iff_not]
      rcases hen with e | ⟨_, e⟩
      · left; omega
      · right; omega
    | true =>
      have hf2 := (hf rfl).2
      simp only [Bool.true_and, Bool.or_eq_false_iff, Bool.and_eq_false_iff, decide_eq_false_iff_not]
      refine ⟨?_, by omega⟩
      rcases hen with e | ⟨_, e⟩
      · left; omega
      · right; omega
  rw [hbad, if_neg (by decide)]
  unfold arriveG
  rw [mx_eq, mn_eq, I.room]
  have hfe : ∀ x : Int, ((if fin = true then (fr : Int) + b.length else x) = if fin = true then (s.length : Int) else x) := fun x => by
    cases fin with
    | false => rfl
    | true => have := (hf rfl).2; rw [if_pos rfl, if_pos rfl]; omega
  have hen' : (if fin = true then (fr : Int) + b.length else h.en) = -1 ∨ (cl = true ∧ (if fin = true then (fr : Int) + b.length else h.en) = s.length) := by
    cases fin with
    | false => exact hen
    | true => have := hf rfl; exact .inr ⟨this.1, by rw [if_pos rfl]; omega⟩
  by_cases c : max (fr : Int) h.done < min ((fr : Int) + b.length) (h.taken + r)
  · rw [if_pos c]
    obtain ⟨lo, hlo⟩ : ∃ lo : Nat, max (fr : Int) h.done = (lo : Int) := ⟨(max (fr : Int) h.done).toNat, by omega⟩
    obtain ⟨up, hup⟩ : ∃ up : Nat, min ((fr : Int) + b.length) (h.taken + r) = (up : Int) := ⟨(min ((fr : Int) + b.length) (h.taken + r)).toNat, by omega⟩
    rw [hlo, hup] at c ⊢
    have hadd := add_eq 1000 h.done h.more (lo : Int) (up : Int) I.ok (by omega) (by omega) (by omega) (by omega)
    unfold addF
    rcases hadd with ⟨e, h16, d2, l2, hch, hl2, hst, hcv⟩ | ⟨d', l', e, o, hdd, hcov, _⟩
    · rw [e, Option.bind_some]
      dsimp only
      rw [if_pos (by decide)]
      exact ⟨9, h, rfl, I, rfl, Int.le_refl _, .inl ⟨rfl, rfl, h16, by
        by_cases c9 : (fr : Int) ≤ h.done
        · exact absurd hl2 (Nat.not_lt.2 (full_no h.done h.more lo up d2 l2 I.ok.2.2.2 (by omega) c hch hst hcv))
        · omega⟩⟩
    · rw [e, Option.bind_some]
      dsimp only
      rw [if_neg (by decide)]
      refine ⟨0, _, rfl, ?_, rfl, hdd, .inr ⟨rfl, fun y => by unfold Cov; exact hcov y, hfe _⟩⟩
      have hsl : ((b.take ((up : Int) - fr).toNat).drop ((lo : Int) - fr).toNat).length = up - lo := by rw [List.length_drop, List.length_take]; omega
      refine ⟨o, rfl, ⟨htk.1, by show h.taken ≤ d'; omega⟩, fun q hq => ?_, fun q hq => ?_, ?_, hen'⟩
      · rcases (hcov q).1 hq with h1 | h1
        · exact I.lim q h1
        · show q < h.taken + r ∧ q < s.length; omega
      · rw [Int.toNat_natCast]
        show q < (keepF h.more h.data lo _).length ∧ (keepF h.more h.data lo _).getD q 0 = s.getD q 0
        rw [keepF_length, hsl]
        unfold keepF
        rw [hsl, keepG_getD _ _ _ _ _ (by rw [hsl, extD_length]; omega), hsl]
        by_cases hc : Cov h.done h.more (q : Int)
        · have hq1 := I.dat q hc
          refine ⟨by omega, ?_⟩
          by_cases h2 : lo ≤ q ∧ q < lo + (up - lo) ∧ ¬ InR h.more (q : Int)
          · rcases hc with hc | hc
            · omega
            · exact absurd hc h2.2.2
          · rw [if_neg h2, getD_ext _ _ _ hq1.1]
            exact hq1.2
        · have h3 := ((hcov (q : Int)).1 hq).resolve_left hc
          refine ⟨by omega, ?_⟩
          rw [if_pos ⟨by omega, by omega, fun hi => hc (.inr hi)⟩, getD_mid, if_pos (by omega), hb _ (by omega)]
          congr 1
          omega
      · rw [Int.toNat_natCast]
        show (keepF h.more h.data lo _).length ≤ s.length
        rw [keepF_length, hsl]
        have := I.dl
        omega
  · rw [if_neg c]
    refine ⟨0, _, rfl, ⟨I.ok, rfl, htk, I.lim, I.dat, I.dl, hen'⟩, rfl, Int.le_refl _, .inr ⟨rfl, fun y => ?_, hfe _⟩⟩
    show Cov h.done h.more y ↔ _
    constructor
    · exact .inl
    · rintro (h1 | h1)
      · exact h1
      · omega
theorem sacks_ok {s : List Int} {r : Int} {cl : Bool} {h : Hr} (I : HInv s r cl h) (last : Int) : hole_Sacks.f h.done h.more last 3 = some (sackL last h.more 3, 0) := by
  unfold hole_Sacks.f
  rw [if_pos ⟨by have := I.ok.2.2.2; omega, by decide, by decide, may_ok _ _ _ I.ok (by decide)⟩]
theorem take_ok {s : List Int} {r : Int} {cl : Bool} {h : Hr} (I : HInv s r cl h) (hr : 1 ≤ r) (cnt : Int) (h0 : 0 ≤ cnt) (h1 : cnt ≤ 4096) :
    ∃ n : Int, n = min cnt (h.done - h.taken) ∧ 0 ≤ n ∧ takeF h cnt = some (0, (s.take (h.taken + n).toNat).drop h.taken.toNat, h.taken + n == h.en, { h with taken := h.taken + n }) ∧ HInv s r cl { h with taken := h.taken + n } := by
  have hd := I.done_le (by omega)
  have htk := I.tk
  obtain ⟨n, hn⟩ : ∃ n, n = min cnt (h.done - h.taken) := ⟨_, rfl⟩
  have hdl : h.done ≤ h.data.length := by
    by_cases c : h.done ≤ 0
    · omega
    · have := (I.dat (h.done - 1).toNat (.inl (by omega))).1; omega
  refine ⟨n, hn, by omega, ?_, ⟨I.ok, I.room, by show 0 ≤ h.taken + n ∧ h.taken + n ≤ h.done; omega, fun q hq => by have := I.lim q hq; show q < h.taken + n + r ∧ _; omega, I.dat, I.dl, I.en⟩⟩
  unfold takeF
  rw [if_neg (by omega), mn_eq, ← hn, if_pos (by omega)]
  congr 2
  refine congrArg (fun x => (x, _, _)) ?_
  apply List.ext_getElem?
  intro i
  rw [List.getElem?_drop, List.getElem?_drop, List.getElem?_take, List.getElem?_take]
  by_cases c : h.taken.toNat + i < (h.taken + n).toNat
  · rw [if_pos c, if_pos c]
    obtain ⟨h4, h2⟩ := I.dat (h.taken.toNat + i) (.inl (by omega))
    have h3 : h.taken.toNat + i < s.length := by have := I.dl; omega
    rw [List.getD_eq_getElem?_getD, List.getD_eq_getElem?_getD, List.getElem?_eq_getElem h4, List.getElem?_eq_getElem h3] at h2
    rw [List.getElem?_eq_getElem h4, List.getElem?_eq_getElem h3]
    exact congrArg some h2
  · rw [if_neg c, if_neg c]
/-- what is told of an arrival -/
def toldA (h : Hr) (r c last : Int) : S34 := ⟨c, ackF h, h.taken + r - h.done, sackL last h.more 3, [], false⟩
theorem do_arr {s : List Int} {r : Int} {cl : Bool} {h : Hr} (I : HInv s r cl h) (hr : 1 ≤ r ∧ r ≤ 4096) (hs : s.length ≤ 100000) (fr : Nat) (b : List Int) (hn : fr + b.length ≤ s.length) (h64 : b.length ≤ 64) (hb : ∀ i, i < b.length → b.getD i 0 = s.getD (fr + i) 0) (fin : Bool) (hf : fin = true → cl = true ∧ fr + b.length = s.length) (x : Int) :
    ∃ c h', doF h ⟨1, (fr : Int), b, fin, x⟩ = some (toldA h' r c fr, h') ∧ HInv s r cl h' ∧ h'.taken = h.taken ∧ h.done ≤ h'.done ∧ ((c = 9 ∧ h' = h ∧ h.more.length = 16 ∧ h.done < fr) ∨ (c = 0 ∧ (∀ y, Cov h'.done h'.more y ↔ (Cov h.done h.more y ∨ (max (fr : Int) h.done ≤ y ∧ y < min ((fr : Int) + b.length) (h.taken + r)))) ∧ h'.en = if fin = true then (s.length : Int) else h.en)) := by
  obtain ⟨c, h', e, I', p⟩ := arr_ok I hr hs fr b hn h64 hb fin hf
  refine ⟨c, h', ?_, I', p⟩
  unfold doF
  rw [if_pos ⟨I.okHr (by omega) hs, by show (-100000000 ≤ (fr : Int) ∧ (fr : Int) ≤ 100000000) ∧ b.length ≤ 100000; omega⟩]
  have hm : midF h ⟨1, (fr : Int), b, fin, x⟩ = some (c, (fr : Int), [], false, h') := by
    unfold midF
    rw [if_pos rfl]
    show (arriveF h (fr : Int) b fin).map _ = _
    rw [e]
    rfl
  rw [hm, Option.bind_some]
  show (if okH h' then (hole_Sacks.f h'.done h'.more (fr : Int) 3).bind _ else none) = _
  rw [if_pos (I'.okHr (by omega) hs), sacks_ok I', Option.bind_some]
  show some (_, h') = some (_, h')
  unfold toldA
  rw [← I'.room]
theorem do_take {s : List Int} {r : Int} {cl : Bool} {h : Hr} (I : HInv s r cl h) (hr : 1 ≤ r ∧ r ≤ 4096) (hs : s.length ≤ 100000) (cnt : Int) (h0 : 0 ≤ cnt) (h1 : cnt ≤ 4096) (fin : Bool) :
    ∃ n : Int, ∃ h' : Hr, n = min cnt (h.done - h.taken) ∧ 0 ≤ n ∧ h' = { h with taken := h.taken + n } ∧ HInv s r cl h' ∧ doF h ⟨2, 0, [], fin, cnt⟩ = some ({ toldA h' r 0 (-1) with f4 := (s.take (h.taken + n).toNat).drop h.taken.toNat, f5 := (h.taken + n == h.en) }, h') := by
  obtain ⟨n, hn, hn0, e, I'⟩ := take_ok I hr.1 cnt h0 h1
  refine ⟨n, _, hn, hn0, rfl, I', ?_⟩
  obtain rfl : h.room = r := I.room
  unfold doF
  rw [if_pos ⟨I.okHr (by omega) hs, (show -100000000 ≤ (0 : Int) ∧ (0 : Int) ≤ 100000000 by decide), by simp⟩]
  have hm : midF h ⟨2, 0, [], fin, cnt⟩ = some (0, -1, (s.take (h.taken + n).toNat).drop h.taken.toNat, h.taken + n == h.en, { h with taken := h.taken + n }) := by
    unfold midF
    rw [if_neg (show ¬ (2 : Int) = 1 by decide), if_pos rfl]
    show (takeF h cnt).map _ = _
    rw [e]
    rfl
  rw [hm, Option.bind_some]
  show (if okH { h with taken := h.taken + n } then (hole_Sacks.f h.done h.more (-1) 3).bind _ else none) = _
  rw [if_pos (I'.okHr (by omega) hs), sacks_ok I, Option.bind_some]
  show some (_, ({ h with taken := h.taken + n } : Hr)) = some (_, _)
  rfl

/-- many events -/
def runH : Hr → List S38 → Option (Hr × List S34)
  | h, [] => some (h, [])
  | h, a :: l => (doF h a).bind fun r => (runH r.2 l).map fun p => (p.1, r.1 :: p.2)
theorem playH_run : ∀ (l : List S38) (h : Hr) (acc : List S34), playH h l acc = (runH h l).map fun p => acc ++ p.2
  | [], h, acc => by simp [playH, runH]
  | a :: l, h, acc => by
    rw [playH, runH]
    rcases doF h a with _ | r
    · rfl
    · rw [Option.bind_some, Option.bind_some, playH_run l]
      rcases runH r.2 l with _ | p
      · rfl
      · simp
theorem runH_append : ∀ (l m : List S38) (h : Hr), runH h (l ++ m) = (runH h l).bind fun p => (runH p.1 m).map fun q => (q.1, p.2 ++ q.2)
  | [], m, h => by
    rw [List.nil_append, runH, Option.bind_some]
    rcases runH h m with _ | p <;> simp
  | a :: l, m, h => by
    rw [List.cons_append, runH, runH]
    rcases doF h a with _ | r
    · rfl
    · rw [Option.bind_some, Option.bind_some, runH_append l m]
      rcases runH r.2 l with _ | p
      · rfl
      · rw [Option.bind_some, Option.map_some, Option.bind_some]
        rcases runH p.1 m with _ | q <;> simp
def piece (s : List Int) (fr to_ : Nat) (fin : Bool) : S38 := ⟨1, (fr : Int), (s.take to_).drop fr, fin, 0⟩
def takes (c : Int) : S38 := ⟨2, 0, [], false, c⟩
theorem piece_len (s : List Int) (fr to_ : Nat) (h : fr ≤ to_) (h2 : to_ ≤ s.length) : ((s.take to_).drop fr).length = to_ - fr := by rw [List.length_drop, List.length_take]; omega
theorem do_piece {s : List Int} {r : Int} {cl : Bool} {h : Hr} (I : HInv s r cl h) (hr : 1 ≤ r ∧ r ≤ 4096) (hs : s.length ≤ 100000) (fr to_ : Nat) (h1 : fr ≤ to_) (h2 : to_ ≤ s.length) (h3 : to_ - fr ≤ 64) (fin : Bool) (hf : fin = true → cl = true ∧ to_ = s.length) :
    ∃ c h', doF h (piece s fr to_ fin) = some (toldA h' r c fr, h') ∧ HInv s r cl h' ∧ h'.taken = h.taken ∧ h.done ≤ h'.done ∧ ((c = 9 ∧ h' = h ∧ h.more.length = 16 ∧ h.done < fr) ∨ (c = 0 ∧ (∀ y, Cov h'.done h'.more y ↔ (Cov h.done h.more y ∨ (max (fr : Int) h.done ≤ y ∧ y < min (to_ : Int) (h.taken + r)))) ∧ h'.en = if fin = true then (s.length : Int) else h.en)) := by
  have hl := piece_len s fr to_ h1 h2
  obtain ⟨c, h', e, I', p1, p2, p3⟩ := do_arr I hr hs fr ((s.take to_).drop fr) (by rw [hl]; omega) (by rw [hl]; omega) (fun i hi => by rw [getD_mid, if_pos (by rw [hl] at hi; omega)]) fin (fun hx => by rw [hl]; have := hf hx; exact ⟨this.1, by omega⟩) 0
  refine ⟨c, h', e, I', p1, p2, ?_⟩
  rw [hl, show ((fr : Int) + ((to_ - fr : Nat) : Int)) = (to_ : Int) by omega] at p3
  exact p3
/-- what a list of events comes to: as far as it was taken -/
structure RunTo (s : List Int) (r : Int) (cl : Bool) (l : List S38) (h : Hr) (ts : List S34) : Prop where
  run : runH (h0F r) l = some (h, ts)
  len : ts.length = l.length
  inv : HInv s r cl h
  dat : ts.flatMap (·.f4) = s.take h.taken.toNat
theorem runTo_nil (s : List Int) (r : Int) (cl : Bool) (hr : 0 ≤ r) : RunTo s r cl [] (h0F r) [] := ⟨rfl, rfl, hinv_new s r cl hr, rfl⟩
theorem RunTo.step {s : List Int} {r : Int} {cl : Bool} {l : List S38} {h : Hr} {ts : List S34} (R : RunTo s r cl l h ts) {a : S38} {t : S34} {h' : Hr} (e : doF h a = some (t, h')) (I : HInv s r cl h') (hd : t.f4 = (s.take h'.taken.toNat).drop h.taken.toNat) (hle : h.taken ≤ h'.taken) : RunTo s r cl (l ++ [a]) h' (ts ++ [t]) := by
  refine ⟨?_, by rw [List.length_append, List.length_append, R.len]; rfl, I, ?_⟩
  · rw [runH_append, R.run, Option.bind_some, runH, e, Option.bind_some, runH]
    rfl
  · rw [List.flatMap_append, R.dat]
    simp only [List.flatMap_cons, List.flatMap_nil, List.append_nil]
    rw [hd]
    have h1 : h.taken.toNat ≤ h'.taken.toNat := by omega
    have h2 := List.take_append_drop h.taken.toNat (s.take h'.taken.toNat)
    rw [List.take_take, Nat.min_eq_left h1] at h2
    exact h2
theorem RunTo.piece {s : List Int} {r : Int} {cl : Bool} {l : List S38} {h : Hr} {ts : List S34} (R : RunTo s r cl l h ts) (hr : 1 ≤ r ∧ r ≤ 4096) (hs : s.length ≤ 100000) (fr to_ : Nat) (h1 : fr ≤ to_) (h2 : to_ ≤ s.length) (h3 : to_ - fr ≤ 64) (fin : Bool) (hf : fin = true → cl = true ∧ to_ = s.length) :
    ∃ c h', RunTo s r cl (l ++ [Pure.piece s fr to_ fin]) h' (ts ++ [toldA h' r c fr]) ∧ h'.taken = h.taken ∧ h.done ≤ h'.done ∧ ((c = 9 ∧ h' = h ∧ h.more.length = 16 ∧ h.done < fr) ∨ (c = 0 ∧ (∀ y, Cov h'.done h'.more y ↔ (Cov h.done h.more y ∨ (max (fr : Int) h.done ≤ y ∧ y < min (to_ : Int) (h.taken + r)))) ∧ h'.en = if fin = true then (s.length : Int) else h.en)) := by
  obtain ⟨c, h', e, I', p1, p2, p3⟩ := do_piece R.inv hr hs fr to_ h1 h2 h3 fin hf
  refine ⟨c, h', R.step e I' ?_ (by omega), p1, p2, p3⟩
  rw [p1]
  show ([] : List Int) = _
  rw [List.drop_of_length_le (by rw [List.length_take]; omega)]
theorem RunTo.takes {s : List Int} {r : Int} {cl : Bool} {l : List S38} {h : Hr} {ts : List S34} (R : RunTo s r cl l h ts) (hr : 1 ≤ r ∧ r ≤ 4096) (hs : s.length ≤ 100000) (cnt : Int) (h0 : 0 ≤ cnt) (h1 : cnt ≤ 4096) :
    ∃ n : Int, ∃ h' : Hr, n = min cnt (h.done - h.taken) ∧ 0 ≤ n ∧ h' = { h with taken := h.taken + n } ∧ RunTo s r cl (l ++ [Pure.takes cnt]) h' (ts ++ [{ toldA h' r 0 (-1) with f4 := (s.take (h.taken + n).toNat).drop h.taken.toNat, f5 := (h.taken + n == h.en) }]) := by
  obtain ⟨n, h', hn, hn0, rfl, I', e⟩ := do_take R.inv hr hs cnt h0 h1 false
  exact ⟨n, _, hn, hn0, rfl, R.step e I' rfl (by show h.taken ≤ h.taken + n; omega)⟩

theorem mod_of {x n : Int} (h : 0 < n) : 0 ≤ x % n ∧ x % n < n := ⟨Int.emod_nonneg _ (by omega), Int.emod_lt_of_pos _ h⟩
/-- what arrivals may be -/
def ArrOk (s : List Int) (cl : Bool) (a : S38) : Prop := (∃ c : Int, a = takes c ∧ 0 ≤ c ∧ c ≤ 4096) ∨ (∃ fr to_ : Nat, ∃ fin : Bool, a = piece s fr to_ fin ∧ fr ≤ to_ ∧ to_ ≤ s.length ∧ to_ - fr ≤ 64 ∧ (fin = true → cl = true ∧ to_ = s.length) ∧ (cl = false → fin = false))
theorem wrap_lit {x : Int} (h : (Lit.int .i64 x).wf = true) : -9223372036854775808 ≤ x ∧ x ≤ 9223372036854775807 := by
  simp [Lit.wf, IntKind.min, IntKind.max, IntKind.signed, IntKind.bits] at h
  omega
theorem arrivals_l0 (l s : List Int) (hl : l.length ≤ 9000000000000000000) (hs : s.length ≤ 100000) (n : Nat) (hn : n ≤ 1000) (cl : Bool) : ∀ (m i k : Nat) (x : List S38), i + m = n → 2 * m + 10 < k → x.length = i → (∀ a ∈ x, ArrOk s cl a) →
    ∃ y, packthreadkeep_Arrivals.l0 k l s (n : Int) cl x (i : Int) = some y ∧ y.length ≤ n ∧ ∀ a ∈ y, ArrOk s cl a := by
  intro m
  induction m with
  | zero =>
    intro i k x hi hk hx ha
    obtain ⟨k, rfl⟩ : ∃ q, k = q + 2 := ⟨k - 2, by omega⟩
    refine ⟨x, ?_, by omega, ha⟩
    have e : packthreadkeep_Arrivals.j1 (k + 1) l s (n : Int) cl x (i : Int) false = some x := by rw [packthreadkeep_Arrivals.j1, if_neg (by decide)]
    rw [packthreadkeep_Arrivals.l0, decide_eq_false (show ¬ ((i : Int) < (n : Int)) by omega), e, ite_self]
  | succ m ih =>
    intro i k x hi hk hx ha
    obtain ⟨k, rfl⟩ : ∃ q, k = q + 2 := ⟨k - 2, by omega⟩
    have hw1 : wrap64 ((i : Int) + 1) = ((i + 1 : Nat) : Int) := by rw [wrap64_id (by omega) (by omega)]; omega
    rw [packthreadkeep_Arrivals.l0]
    by_cases c1 : (i : Int) < (l.length : Int)
    case neg =>
      rw [if_neg c1, packthreadkeep_Arrivals.j1, if_neg (by decide)]
      exact ⟨x, rfl, by omega, ha⟩
    rw [if_pos c1, decide_eq_true (show (i : Int) < (n : Int) by omega), packthreadkeep_Arrivals.j1, if_pos rfl, if_pos (by omega), if_pos c1, picked_eq _ _ (by decide) (by decide), Option.bind_some, hw1]
    by_cases c2 : rd l (i : Int) % 5 = 0
    · rw [if_pos c2, picked_eq _ _ (by decide) (by decide), Option.bind_some, if_pos (by omega)]
      have := mod_of (x := wrap64 (Int.tdiv (rd l (i : Int)) 5)) (n := 60) (by decide)
      refine ih (i + 1) k _ (by omega) (by omega) (by rw [List.length_append, hx]; rfl) (fun a h => ?_)
      rcases List.mem_append.1 h with h | h
      · exact ha a h
      · rw [List.mem_singleton.1 h]
        exact .inl ⟨_, rfl, this.1, by omega⟩
    · rw [if_neg c2, wrap64_id (x := (s.length : Int) + 1) (by omega) (by omega), picked_eq _ _ (by omega) (by omega), Option.bind_some, picked_eq _ _ (by decide) (by decide), Option.bind_some]
      obtain ⟨p, hp⟩ : ∃ p, wrap64 (Int.tdiv (rd l (i : Int)) 5) % ((s.length : Int) + 1) = p := ⟨_, rfl⟩
      obtain ⟨q, hq⟩ : ∃ q, wrap64 (Int.tdiv (rd l (i : Int)) 1000) % 64 = q := ⟨_, rfl⟩
      have hp2 := mod_of (x := wrap64 (Int.tdiv (rd l (i : Int)) 5)) (n := (s.length : Int) + 1) (by omega)
      have hq2 := mod_of (x := wrap64 (Int.tdiv (rd l (i : Int)) 1000)) (n := 64) (by decide)
      rw [hp] at hp2 ⊢
      rw [hq] at hq2 ⊢
      rw [wrap64_id (x := p + 1) (by omega) (by omega), wrap64_id (x := p + 1 + q) (by omega) (by omega), mn_eq]
      obtain ⟨fr, rfl⟩ : ∃ fr : Nat, p = (fr : Int) := ⟨p.toNat, by omega⟩
      obtain ⟨t, ht⟩ : ∃ t : Nat, min (s.length : Int) ((fr : Int) + 1 + q) = (t : Int) := ⟨(min (s.length : Int) ((fr : Int) + 1 + q)).toNat, by omega⟩
      rw [ht, if_pos hp2.1, if_pos (by omega), if_pos (by omega), Int.toNat_natCast, Int.toNat_natCast]
      have hlen : ((s.take t).drop fr).length ≤ 100000 := by rw [List.length_drop, List.length_take]; omega
      rw [if_pos (by simp only [List.length_nil]; omega), Option.bind_some, List.nil_append]
      have key : ∀ fin : Bool, (fin = true → cl = true ∧ t = s.length) → (cl = false → fin = false) → ∃ y, packthreadkeep_Arrivals.l0 k l s (n : Int) cl (x ++ [(⟨1, (fr : Int), (s.take t).drop fr, fin, 0⟩ : S38)]) ((i + 1 : Nat) : Int) = some y ∧ y.length ≤ n ∧ ∀ a ∈ y, ArrOk s cl a := fun fin hf hf2 => by
        refine ih (i + 1) k _ (by omega) (by omega) (by rw [List.length_append, hx]; rfl) (fun a h => ?_)
        rcases List.mem_append.1 h with h | h
        · exact ha a h
        · rw [List.mem_singleton.1 h]
          exact .inr ⟨fr, t, fin, rfl, by omega, by omega, by omega, hf, hf2⟩
      by_cases c3 : cl = true
      · rw [if_pos c3, if_pos (by omega)]
        exact key _ (fun h => ⟨c3, by have := eq_of_beq h; omega⟩) (fun h => by rw [c3] at h; cases h)
      · rw [if_neg c3, if_pos (by omega)]
        exact key false (fun h => by cases h) (fun _ => rfl)
theorem arrivals_eq (l s : List Int) (hl : l.length ≤ 9000000000000000000) (hs : s.length ≤ 100000) (n : Nat) (hn : n ≤ 1000) (cl : Bool) (k : Nat) (hk : 2 * n + 10 < k) : ∃ y, packthreadkeep_Arrivals.f k l s (n : Int) cl = some y ∧ y.length ≤ n ∧ ∀ a ∈ y, ArrOk s cl a := by
  unfold packthreadkeep_Arrivals.f
  exact arrivals_l0 l s hl hs n hn cl n 0 k [] (by omega) (by omega) rfl (fun a h => by cases h)
theorem arrOk_step {s : List Int} {r : Int} {cl : Bool} {l : List S38} {h : Hr} {ts : List S34} (R : RunTo s r cl l h ts) (hr : 1 ≤ r ∧ r ≤ 4096) (hs : s.length ≤ 100000) (a : S38) (ha : ArrOk s cl a) : ∃ h' t, RunTo s r cl (l ++ [a]) h' (ts ++ [t]) := by
  rcases ha with ⟨c, rfl, h0, h1⟩ | ⟨fr, to_, fin, rfl, h1, h2, h3, h4, _⟩
  · obtain ⟨n, h', _, _, _, R'⟩ := R.takes hr hs c h0 h1
    exact ⟨_, _, R'⟩
  · obtain ⟨c, h', R', _⟩ := R.piece hr hs fr to_ h1 h2 h3 fin h4
    exact ⟨_, _, R'⟩
theorem arrOk_run {s : List Int} {r : Int} {cl : Bool} (hr : 1 ≤ r ∧ r ≤ 4096) (hs : s.length ≤ 100000) : ∀ (m l : List S38) (h : Hr) (ts : List S34), RunTo s r cl l h ts → (∀ a ∈ m, ArrOk s cl a) → ∃ h' ts', RunTo s r cl (l ++ m) h' ts'
  | [], l, h, ts, R, _ => ⟨h, ts, by rw [List.append_nil]; exact R⟩
  | a :: m, l, h, ts, R, ha => by
    obtain ⟨h', t, R'⟩ := arrOk_step R hr hs a (ha a List.mem_cons_self)
    obtain ⟨h2, ts2, R2⟩ := arrOk_run hr hs m _ _ _ R' (fun b hb => ha b (List.mem_cons_of_mem _ hb))
    exact ⟨h2, ts2, by rw [List.append_assoc] at R2; exact R2⟩
theorem play_eq {s : List Int} {r : Int} {cl : Bool} {l : List S38} {h : Hr} {ts : List S34} (R : RunTo s r cl l h ts) (hr : 1 ≤ r ∧ r ≤ 4096) (hl : l.length ≤ 300) : recv_Play.f r l = some (ts, 0) := by
  unfold recv_Play.f
  rw [if_neg (by omega), if_neg (by omega), playH_run, R.run]
  simp
theorem one_eq : ∃ t0 t1 : S34, recv_Play.f 9 [⟨1, 0, [5], false, 0⟩, ⟨2, 0, [], false, 3⟩] = some ([t0, t1], 0) ∧ t1.f4 = [5] := by
  have R0 := runTo_nil [5] 9 false (by decide)
  obtain ⟨c, h1, R1, e1, e2, e3⟩ := R0.piece (by decide) (by decide) 0 1 (by decide) (by decide) (by decide) false (fun h => by cases h)
  have hc : ∀ y, Cov h1.done h1.more y ↔ (Cov (h0F 9).done (h0F 9).more y ∨ (max ((0 : Nat) : Int) (h0F 9).done ≤ y ∧ y < min ((1 : Nat) : Int) ((h0F 9).taken + 9))) := by
    rcases e3 with ⟨_, _, h16, _⟩ | ⟨_, h, _⟩
    · simp [h0F] at h16
    · exact h
  have hd : h1.done = 1 := by
    have a1 := (hc 0).2 (.inr (by simp [h0F]; omega))
    have a2 := (R1.inv.done_le (by decide)).2
    rcases a1 with a1 | a1
    · have : (([5] : List Int).length : Int) = 1 := rfl
      omega
    · have := (ch_in _ _ _ R1.inv.ok.1 a1).1
      have := R1.inv.tk
      omega
  obtain ⟨n, h2, hn, hn0, rfl, R2⟩ := R1.takes (by decide) (by decide) 3 (by decide) (by decide)
  rw [e1, hd] at hn
  have hn1 : n = 1 := by simp [h0F] at hn; omega
  subst hn1
  refine ⟨_, _, play_eq R2 (by decide) (by simp), ?_⟩
  show (([5] : List Int).take (h1.taken + 1).toNat).drop h1.taken.toNat = [5]
  rw [e1]
  rfl
theorem hearer_run {r : Int} {l : List S38} {h : Hr} {ts : List S34} (R : runH (h0F r) l = some (h, ts)) (hlen : ts.length = l.length) (hr : 1 ≤ r ∧ r ≤ 4096) (hl : l.length ≤ 300) (k : Nat) (hk : 10 < k) : packthreadkeep_hearer.f k r l = some (ts, true) := by
  obtain ⟨t0, t1, e1, e2⟩ := one_eq
  have hp : recv_Play.f r l = some (ts, 0) := by
    unfold recv_Play.f
    rw [if_neg (by omega), if_neg (by omega), playH_run, R]
    simp
  unfold packthreadkeep_hearer.f
  rw [if_pos (by simp only [List.length_nil]; omega), List.nil_append, hp, Option.bind_some, e1, Option.bind_some]
  dsimp only
  have hl2 : (([t0, t1] : List S34).length : Int) = 2 := rfl
  rw [if_pos rfl, if_pos (by omega), if_pos rfl, hl2, if_pos rfl, if_pos (by decide)]
  have e3 : rd_T34 [t0, t1] 1 = t1 := rfl
  rw [e3, e2, sameb_eq k [5] (by decide) (by show 1 < k; omega), Option.bind_some]
theorem hearer_eq {s : List Int} {r : Int} {cl : Bool} {l : List S38} {h : Hr} {ts : List S34} (R : RunTo s r cl l h ts) (hr : 1 ≤ r ∧ r ≤ 4096) (hl : l.length ≤ 300) (k : Nat) (hk : 10 < k) : packthreadkeep_hearer.f k r l = some (ts, true) := hearer_run R.run R.len hr hl k hk

theorem arr_dup {s : List Int} {r : Int} {h : Hr} (I : HInv s r false h) (hr : 1 ≤ r ∧ r ≤ 4096) (hs : s.length ≤ 100000) (fr : Nat) (b : List Int) (hn : fr + b.length ≤ s.length) (h64 : b.length ≤ 64) (hb : ∀ i, i < b.length → b.getD i 0 = s.getD (fr + i) 0) (c : Int) (h' : Hr) (e : arriveF h (fr : Int) b false = some (c, h')) (b2 : List Int) (hl : b2.length = b.length) : ∃ c2, arriveF h' (fr : Int) b2 false = some (c2, h') := by
  obtain ⟨c0, h0, e0, I', ht, hd, alt⟩ := arr_ok I hr hs fr b hn h64 hb false (fun h => by cases h)
  rw [e0] at e
  simp only [Option.some.injEq, Prod.mk.injEq] at e
  obtain ⟨rfl, rfl⟩ := e
  rcases alt with ⟨rfl, rfl, _, _⟩ | ⟨rfl, hc, hen⟩
  · refine ⟨9, ?_⟩
    unfold arriveF at e0 ⊢
    rw [hl]
    rw [if_neg (by omega), if_neg (by omega)] at e0 ⊢
    split at e0
    · simp at e0
    · rename_i hb2
      rw [if_neg hb2]
      unfold arriveG at e0 ⊢
      rw [hl]
      split at e0
      · rename_i hlt
        rw [if_pos hlt]
        rcases ha : addF h0.done h0.more (mx (fr : Int) h0.done) (mn ((fr : Int) + b.length) (h0.taken + h0.room)) with _ | t
        · rw [ha] at e0; cases e0
        · rw [ha, Option.bind_some] at e0
          rw [Option.bind_some]
          split at e0
          · rename_i hne
            rw [if_pos hne]
            simp only [Option.some.injEq, Prod.mk.injEq] at e0
            rw [e0.1]
          · simp at e0
      · simp at e0
  · have hd2 := I'.done_le (by omega)
    have he2 := I'.en_le (by omega)
    have htk := I'.tk
    have hen2 : h0.en = -1 := by
      rcases I'.en with e1 | ⟨e1, _⟩
      · exact e1
      · cases e1
    have hbad : badA h0 (fr : Int) b.length false = false := by
      unfold badA
      simp only [Bool.false_and, Bool.or_false, Bool.and_eq_false_iff, decide_eq_false_iff_not]
      left; omega
    unfold arriveF
    rw [hl, if_neg (by omega), if_neg (by omega), hbad, if_neg (by decide)]
    unfold arriveG
    rw [mx_eq, mn_eq, I'.room, hl]
    have hsame : ({ h0 with en := if false = true then (fr : Int) + b.length else h0.en } : Hr) = h0 := rfl
    by_cases c2 : max (fr : Int) h0.done < min ((fr : Int) + b.length) (h0.taken + r)
    · rw [if_pos c2]
      obtain ⟨lo, hlo⟩ : ∃ lo : Nat, max (fr : Int) h0.done = (lo : Int) := ⟨(max (fr : Int) h0.done).toNat, by omega⟩
      obtain ⟨up, hup⟩ : ∃ up : Nat, min ((fr : Int) + b.length) (h0.taken + r) = (up : Int) := ⟨(min ((fr : Int) + b.length) (h0.taken + r)).toNat, by omega⟩
      have hcv : ∀ y : Int, max (fr : Int) h0.done ≤ y → y < min ((fr : Int) + b.length) (h0.taken + r) → Cov h0.done h0.more y := fun y h1 h2 => (hc y).2 (.inr (by rw [← ht]; omega))
      rw [hlo, hup] at c2 hcv ⊢
      have hadd := add_eq 1000 h0.done h0.more (lo : Int) (up : Int) I'.ok (by omega) (by omega) (by omega) (by omega)
      unfold addF
      rcases hadd with ⟨e, _⟩ | ⟨d', l', e, o, hdd, hcov, _⟩
      · rw [e, Option.bind_some]
        dsimp only
        rw [if_pos (by decide)]
        exact ⟨9, rfl⟩
      · have hcan := canon h0.done d' h0.more l' I'.ok.1 o.1 (fun y => by
          rw [hcov y]
          constructor
          · exact .inl
          · rintro (h1 | h1)
            · exact h1
            · exact hcv y h1.1 h1.2)
        obtain ⟨rfl, rfl⟩ := hcan
        rw [e, Option.bind_some]
        dsimp only
        rw [if_neg (by decide)]
        refine ⟨0, ?_⟩
        have hsl : ((b2.take ((up : Int) - fr).toNat).drop ((lo : Int) - fr).toNat).length = up - lo := by rw [List.length_drop, List.length_take]; omega
        have hdat : keepF h0.more h0.data lo ((b2.take ((up : Int) - fr).toNat).drop ((lo : Int) - fr).toNat) = h0.data := by
          have hup2 := I'.dat (up - 1) (by
            have := hcv ((up : Int) - 1) (by omega) (by omega)
            rw [show ((up - 1 : Nat) : Int) = (up : Int) - 1 by omega]
            exact this)
          apply List.ext_getElem
          · rw [keepF_length, hsl]; omega
          · intro q h1 h2
            have hk := keepG_getD h0.more ((b2.take ((up : Int) - fr).toNat).drop ((lo : Int) - fr).toNat) (extD h0.data (lo + (up - lo))) lo q (by rw [hsl, extD_length]; omega)
            have hne : ¬ (lo ≤ q ∧ q < lo + (up - lo) ∧ ¬ InR h0.more (q : Int)) := fun h3 => by
              rcases hcv (q : Int) (by omega) (by omega) with h4 | h4
              · omega
              · exact h3.2.2 h4
            rw [hsl, if_neg hne, getD_ext _ _ _ h2] at hk
            have hk2 : (keepF h0.more h0.data lo ((b2.take ((up : Int) - fr).toNat).drop ((lo : Int) - fr).toNat)).getD q 0 = h0.data.getD q 0 := by
              unfold keepF
              rw [hsl]
              exact hk
            rw [List.getD_eq_getElem?_getD, List.getD_eq_getElem?_getD, List.getElem?_eq_getElem h1, List.getElem?_eq_getElem h2] at hk2
            exact hk2
        rw [Int.toNat_natCast, hdat]
        congr 2
        rw [← I'.room]
        rfl
    · rw [if_neg c2]
      exact ⟨0, by congr 2; rw [← I'.room]; rfl⟩
/-- one that comes again, with whatever bytes -/
theorem do_dup {s : List Int} {r : Int} {h : Hr} (I : HInv s r false h) (hr : 1 ≤ r ∧ r ≤ 4096) (hs : s.length ≤ 100000) (fr to_ : Nat) (h1 : fr ≤ to_) (h2 : to_ ≤ s.length) (h3 : to_ - fr ≤ 64) (t : S34) (h' : Hr) (e : doF h (piece s fr to_ false) = some (t, h')) (I' : HInv s r false h') (b2 : List Int) (hl : b2.length = ((s.take to_).drop fr).length) (x : Int) : ∃ t2, doF h' ⟨1, (fr : Int), b2, false, x⟩ = some (t2, h') := by
  have hpl := piece_len s fr to_ h1 h2
  have hb : ∀ i, i < ((s.take to_).drop fr).length → ((s.take to_).drop fr).getD i 0 = s.getD (fr + i) 0 := fun i hi => by rw [getD_mid, if_pos (by rw [hpl] at hi; omega)]
  obtain ⟨c, h0, ea, _⟩ := arr_ok I hr hs fr ((s.take to_).drop fr) (by rw [hpl]; omega) (by rw [hpl]; omega) hb false (fun h => by cases h)
  obtain ⟨c1, h00, e0, _⟩ := do_arr I hr hs fr ((s.take to_).drop fr) (by rw [hpl]; omega) (by rw [hpl]; omega) hb false (fun h => by cases h) 0
  have hh : h0 = h' := by
    have hm : midF h (piece s fr to_ false) = some (c, (fr : Int), [], false, h0) := by
      unfold midF piece
      rw [if_pos rfl]
      show (arriveF h (fr : Int) _ false).map _ = _
      rw [ea]; rfl
    unfold doF at e
    split at e
    · rw [hm, Option.bind_some] at e
      dsimp only at e
      split at e
      · rcases hS : hole_Sacks.f h0.done h0.more (fr : Int) 3 with _ | q
        · rw [hS] at e; cases e
        · rw [hS, Option.bind_some] at e
          injection e with e
          injection e
      · cases e
    · cases e
  subst hh
  obtain ⟨c2, e2⟩ := arr_dup I hr hs fr ((s.take to_).drop fr) (by rw [hpl]; omega) (by rw [hpl]; omega) hb c h0 ea b2 hl
  refine ⟨toldA h0 r c2 fr, ?_⟩
  unfold doF
  rw [if_pos ⟨I'.okHr (by omega) hs, by show (-100000000 ≤ (fr : Int) ∧ (fr : Int) ≤ 100000000) ∧ b2.length ≤ 100000; omega⟩]
  have hm : midF h0 ⟨1, (fr : Int), b2, false, x⟩ = some (c2, (fr : Int), [], false, h0) := by
    unfold midF
    rw [if_pos rfl]
    show (arriveF h0 (fr : Int) b2 false).map _ = _
    rw [e2]
    rfl
  rw [hm, Option.bind_some]
  show (if okH h0 then (hole_Sacks.f h0.done h0.more (fr : Int) 3).bind _ else none) = _
  rw [if_pos (I'.okHr (by omega) hs), sacks_ok I', Option.bind_some]
  show some (_, h0) = some (_, h0)
  unfold toldA
  rw [← I'.room]

def Arr0 (s : List Int) (a : S38) : Prop := a = takes 0 ∨ ∃ fr to_ : Nat, a = piece s fr to_ false ∧ fr ≤ to_ ∧ to_ ≤ s.length ∧ to_ - fr ≤ 64
theorem rd_mem (l : List S38) (i : Nat) (h : i < l.length) : rd_T38 l (i : Int) = l[i] := by
  unfold rd_T38
  rw [Int.toNat_natCast, List.getD_eq_getElem?_getD, List.getElem?_eq_getElem h]
  rfl
theorem l0_eq (x4 x5 r : Int) (s : List Int) (n : Nat) (hn : n ≤ 1000) : ∀ (m i k : Nat) (x : List S38), i + m = n → m < k → x.length = n → (∀ a ∈ x, ArrOk s false a) → (∀ j (hj : j < x.length), j < i → Arr0 s x[j]) →
    ∃ y, packthreadkeep_RecvTwice.l0 k x4 x5 r x (n : Int) (i : Int) = packthreadkeep_RecvTwice.l1 (k - m - 1) x4 x5 r y (n : Int) [] 0 ∧ y.length = n ∧ ∀ a ∈ y, Arr0 s a := by
  intro m
  induction m with
  | zero =>
    intro i k x hi hk hx ha h0
    obtain ⟨k, rfl⟩ : ∃ q, k = q + 1 := ⟨k - 1, by omega⟩
    refine ⟨x, ?_, hx, fun a h => ?_⟩
    · rw [packthreadkeep_RecvTwice.l0, if_neg (by omega)]
      rfl
    · obtain ⟨j, hj, rfl⟩ := List.getElem_of_mem h
      exact h0 j hj (by omega)
  | succ m ih =>
    intro i k x hi hk hx ha h0
    obtain ⟨k, rfl⟩ : ∃ q, k = q + 1 := ⟨k - 1, by omega⟩
    have hlt : i < x.length := by omega
    have q1 : (i : Int) < (n : Int) := by omega
    have q2 : (0 : Int) ≤ (i : Int) := by omega
    have q3 : (i : Int) < (x.length : Int) := by omega
    have hkk : k + 1 - (m + 1) - 1 = k - m - 1 := by omega
    have hw : wrap64 ((i : Int) + 1) = ((i + 1 : Nat) : Int) := by rw [wrap64_id (by omega) (by omega)]; omega
    rw [packthreadkeep_RecvTwice.l0, if_pos q1, if_pos q2, if_pos q3, rd_mem x i hlt, hw, hkk, Int.toNat_natCast]
    have hxi := ha x[i] (List.getElem_mem hlt)
    rcases hxi with ⟨c, e, c0, c1⟩ | ⟨fr, to_, fin, e, e1, e2, e3, e4, e5⟩
    · rw [e]
      rw [if_pos (show (takes c).f0 = 2 from rfl)]
      refine ih (i + 1) k _ (by omega) (by omega) (by rw [List.length_set]; exact hx) (fun a h => ?_) (fun j hj hji => ?_)
      · rcases List.mem_or_eq_of_mem_set h with h | h
        · exact ha a h
        · rw [h]; exact .inl ⟨0, rfl, by decide, by decide⟩
      · rw [List.getElem_set]
        split
        · exact .inl rfl
        · exact h0 j (by rw [List.length_set] at hj; exact hj) (by omega)
    · rw [e, if_neg (show ¬ (piece s fr to_ fin).f0 = 2 by show ¬ (1 : Int) = 2; decide)]
      refine ih (i + 1) k x (by omega) (by omega) hx ha (fun j hj hji => ?_)
      by_cases cj : j = i
      · subst cj
        rw [e, e5 rfl]
        exact .inr ⟨fr, to_, rfl, e1, e2, e3⟩
      · exact h0 j hj (by omega)
theorem l2_eq (x4 x5 r : Int) (x15 x18 : List S38) (n i : Nat) (f0 f1 : Int) (f3 : Bool) (f4 : Int) (hl : x18.length ≤ 1000) (hi : i ≤ 1000) : ∀ (m j k : Nat) (d : List Int), j + m = d.length → d.length ≤ 1000 → m < k →
    ∃ d', d'.length = d.length ∧ packthreadkeep_RecvTwice.l2 k x4 x5 r x15 (n : Int) x18 (i : Int) (j : Int) f0 f1 d f3 f4 = packthreadkeep_RecvTwice.l1 (k - m - 1) x4 x5 r x15 (n : Int) (x18 ++ [⟨f0, f1, d', f3, f4⟩]) ((i + 1 : Nat) : Int) := by
  intro m
  induction m with
  | zero =>
    intro j k d hj hd hk
    obtain ⟨k, rfl⟩ : ∃ q, k = q + 1 := ⟨k - 1, by omega⟩
    have q1 : ¬ ((j : Int) < (d.length : Int)) := by omega
    have q2 : x18.length < 2513169434916 := by omega
    have hw : wrap64 ((i : Int) + 1) = ((i + 1 : Nat) : Int) := by rw [wrap64_id (by omega) (by omega)]; omega
    refine ⟨d, rfl, ?_⟩
    rw [packthreadkeep_RecvTwice.l2, if_neg q1, if_pos q2, hw]
    rfl
  | succ m ih =>
    intro j k d hj hd hk
    obtain ⟨k, rfl⟩ : ∃ q, k = q + 1 := ⟨k - 1, by omega⟩
    have q1 : (j : Int) < (d.length : Int) := by omega
    have q2 : (0 : Int) ≤ (j : Int) := by omega
    obtain ⟨d', e1, e2⟩ := ih (j + 1) k (d.set j (Go.bits .xor .u8 (rd d (j : Int)) x5)) (by rw [List.length_set]; omega) (by rw [List.length_set]; omega) (by omega)
    have hkk : k + 1 - (m + 1) - 1 = k - m - 1 := by omega
    refine ⟨d', by rw [e1, List.length_set], ?_⟩
    have hw : wrap64 ((j : Int) + 1) = ((j + 1 : Nat) : Int) := by rw [wrap64_id (by omega) (by omega)]; omega
    rw [packthreadkeep_RecvTwice.l2, if_pos q1, if_pos q2, hw, Int.toNat_natCast, e2, hkk]
theorem samer_l0 (l : List S56) (hL : l.length ≤ 1000) : ∀ (m i k : Nat), i + m = l.length → m < k → packthreadkeep_sameRanges.l0 k l l (i : Int) = some true := by
  intro m
  induction m with
  | zero =>
    intro i k hi hk
    obtain ⟨k, rfl⟩ : ∃ q, k = q + 1 := ⟨k - 1, by omega⟩
    rw [packthreadkeep_sameRanges.l0, if_neg (by omega)]
  | succ m ih =>
    intro i k hi hk
    obtain ⟨k, rfl⟩ : ∃ q, k = q + 1 := ⟨k - 1, by omega⟩
    have hw1 : wrap64 ((i : Int) + 1) = ((i + 1 : Nat) : Int) := by rw [wrap64_id (by omega) (by omega)]; omega
    rw [packthreadkeep_sameRanges.l0, if_pos (by omega), if_pos (by omega), if_pos (by omega), if_neg (by simp), hw1]
    exact ih (i + 1) k (by omega) (by omega)
theorem samer_eq (k : Nat) (l : List S56) (hL : l.length ≤ 1000) (hk : l.length < k) : packthreadkeep_sameRanges.f k l l = some true := by
  unfold packthreadkeep_sameRanges.f
  rw [if_pos rfl]
  exact samer_l0 l hL l.length 0 k (by omega) (by omega)
theorem j4_eq (k : Nat) (ts ts2 : List S34) (t : S34) (h1 : ts.length ≤ 300) (h2 : ts2.length ≤ 300) (h4 : t.f4.length ≤ 1000) (h3 : t.f3.length ≤ 1000) (hk : 2000 < k) : packthreadkeep_RecvTwice.j4 k (ts ++ [t]) (ts2 ++ [t]) (!true) = some true := by
  obtain ⟨k, rfl⟩ : ∃ q, k = q + 1 := ⟨k - 1, by omega⟩
  have key : ∀ l : List S34, l.length ≤ 300 → wrap64 (((l ++ [t]).length : Int) - 1) = (l.length : Int) ∧ rd_T34 (l ++ [t]) (l.length : Int) = t ∧ (l.length : Int) < ((l ++ [t]).length : Int) := fun l hl => by
    refine ⟨?_, ?_, by rw [List.length_append, List.length_singleton]; omega⟩
    · rw [List.length_append, List.length_singleton, wrap64_id (by omega) (by omega)]; omega
    · unfold rd_T34; rw [Int.toNat_natCast]; simp
  obtain ⟨a1, a2, a3⟩ := key ts h1
  obtain ⟨b1, b2, b3⟩ := key ts2 h2
  have c1 := sameb_eq k t.f4 (by omega) (by omega)
  have c2 := samer_eq k t.f3 h3 (by omega)
  rw [packthreadkeep_RecvTwice.j4, if_neg (by decide), a1, b1, if_pos (Int.natCast_nonneg _), if_pos a3, if_pos (Int.natCast_nonneg _), if_pos b3, a2, b2, c1, Option.bind_some, if_pos rfl, if_pos rfl, c2, Option.bind_some]
theorem sackL_len (x : Int) (l : List S56) : (sackL x l 3).length ≤ 3 := by
  unfold sackL
  rw [List.length_take]
  exact Nat.min_le_left _ _
theorem l1_eq (x4 x5 r : Int) (s : List Int) (hr : 1 ≤ r ∧ r ≤ 4096) (hs : s.length ≤ 400) (y : List S38) (n : Nat) (hn : n ≤ 100) (hy : y.length = n) (h0 : ∀ a ∈ y, Arr0 s a) : ∀ (m i k : Nat) (x18 : List S38) (h : Hr) (ts ts2 : List S34), i + m = n → 200 * m + 5000 < k → x18.length ≤ 2 * i →
    RunTo s r false (y.take i) h ts → runH (h0F r) x18 = some (h, ts2) → ts2.length = x18.length → h.taken = 0 → packthreadkeep_RecvTwice.l1 k x4 x5 r y (n : Int) x18 (i : Int) = some true := by
  intro m
  induction m with
  | zero =>
    intro i k x18 h ts ts2 hi hk hx R R2 hl2 ht
    obtain ⟨k, rfl⟩ : ∃ q, k = q + 1 := ⟨k - 1, by omega⟩
    have hin : i = n := by omega
    subst hin
    have ety : y.take i = y := List.take_of_length_le (by omega)
    rw [ety] at R
    obtain ⟨d, h', _, _, _, R'⟩ := R.takes hr (by omega) 4096 (by decide) (by decide)
    obtain ⟨t, et⟩ : ∃ t, t = ({ toldA h' r 0 (-1) with f4 := (s.take (h.taken + d).toNat).drop h.taken.toNat, f5 := (h.taken + d == h.en) } : S34) := ⟨_, rfl⟩
    have lt4 : t.f4.length ≤ 1000 := by rw [et]; show ((s.take _).drop _).length ≤ 1000; rw [List.length_drop, List.length_take]; omega
    have lt3 : t.f3.length ≤ 1000 := by rw [et]; have := sackL_len (-1) h'.more; show (sackL (-1) h'.more 3).length ≤ 1000; omega
    rw [← et] at R'
    have eT : doF h (takes 4096) = some (t, h') := by
      have e1 := R'.run
      rw [runH_append, R.run, Option.bind_some, runH] at e1
      rcases hd : doF h (takes 4096) with _ | q
      · rw [hd] at e1; cases e1
      · rw [hd, Option.bind_some, runH] at e1
        simp only [Option.map_some, Option.some.injEq, Prod.mk.injEq, List.append_cancel_left_eq, List.cons.injEq, and_true] at e1
        rw [← e1.1, ← e1.2]
    have R2' : runH (h0F r) (x18 ++ [takes 4096]) = some (h', ts2 ++ [t]) := by
      rw [runH_append, R2, Option.bind_some, runH, eT, Option.bind_some, runH]
      rfl
    have hlt := R.len
    have e1 := hearer_eq R' hr (by rw [List.length_append, hy]; simp only [List.length_singleton]; omega) k (by omega)
    have e2 := hearer_run R2' (by rw [List.length_append, List.length_append, hl2]; rfl) hr (by rw [List.length_append]; simp only [List.length_singleton]; omega) k (by omega)
    have q1 : ¬ ((i : Int) < (i : Int)) := by omega
    have q2 : y.length < 2513169434916 := by omega
    have q3 : x18.length < 2513169434916 := by omega
    rw [packthreadkeep_RecvTwice.l1, if_neg q1, if_pos q2, if_pos q3]
    show (packthreadkeep_hearer.f k r (y ++ [takes 4096])).bind _ = _
    rw [e1, Option.bind_some]
    show (packthreadkeep_hearer.f k r (x18 ++ [takes 4096])).bind _ = _
    rw [e2, Option.bind_some]
    show (if true = true then packthreadkeep_RecvTwice.j4 k (ts ++ [t]) (ts2 ++ [t]) (!true) else _) = _
    rw [if_pos rfl]
    exact j4_eq k ts ts2 t (by omega) (by omega) lt4 lt3 (by omega)
  | succ m ih =>
    intro i k x18 h ts ts2 hi hk hx R R2 hl2 ht
    obtain ⟨k, rfl⟩ : ∃ q, k = q + 2 := ⟨k - 2, by omega⟩
    have hlt : i < y.length := by omega
    have etk : y.take (i + 1) = y.take i ++ [y[i]] := (List.take_append_getElem hlt).symm
    have hyi := h0 y[i] (List.getElem_mem hlt)
    have q1 : (i : Int) < (n : Int) := by omega
    have q2 : (0 : Int) ≤ (i : Int) := by omega
    have q3 : (i : Int) < (y.length : Int) := by omega
    have q4 : x18.length < 2513169434916 := by omega
    have step2 : ∀ (a : S38) (t : S34) (h' : Hr), doF h a = some (t, h') → runH (h0F r) (x18 ++ [a]) = some (h', ts2 ++ [t]) := fun a t h' e => by
      rw [runH_append, R2, Option.bind_some, runH, e, Option.bind_some, runH]
      rfl
    rcases hyi with e | ⟨fr, to_, e, e1, e2, e3⟩
    · rw [e] at etk
      obtain ⟨d, h', hd, hd0, eh, I', eT⟩ := do_take R.inv hr (by omega) 0 (by decide) (by decide) false
      have hdz : d = 0 := by omega
      subst hdz
      have ehh : h' = h := by rw [eh, Int.add_zero]
      subst ehh
      have R' := R.step eT I' (by show (s.take (h'.taken + 0).toNat).drop h'.taken.toNat = _; rw [Int.add_zero]) (by omega)
      have hgo := ih (i + 1) (k + 1) (x18 ++ [takes 0]) h' _ _ (by omega) (by omega) (by rw [List.length_append]; simp only [List.length_singleton]; omega) (by rw [etk]; exact R') (step2 _ _ _ eT) (by rw [List.length_append, List.length_append, hl2]; rfl) ht
      have hgo2 := ih (i + 1) k (x18 ++ [takes 0]) h' _ _ (by omega) (by omega) (by rw [List.length_append]; simp only [List.length_singleton]; omega) (by rw [etk]; exact R') (step2 _ _ _ eT) (by rw [List.length_append, List.length_append, hl2]; rfl) ht
      have hw : wrap64 ((i : Int) + 1) = ((i + 1 : Nat) : Int) := by clear hd hd0; rw [wrap64_id (by omega) (by omega)]; omega
      rw [packthreadkeep_RecvTwice.l1, if_pos q1, if_pos q2, if_pos q3, if_pos q4, Option.bind_some, rd_mem y i hlt, e]
      rw [if_neg (show ¬ (takes 0).f0 = 1 by show ¬ (2 : Int) = 1; decide), packthreadkeep_RecvTwice.j2, if_neg (by decide), hw]
      exact hgo2
    · rw [e] at etk
      obtain ⟨c, h', eT, I', p1, p2, p3⟩ := do_piece R.inv hr (by omega) fr to_ e1 e2 e3 false (fun h => by cases h)
      have hpl := piece_len s fr to_ e1 e2
      have R' := R.step eT I' (by
        show ([] : List Int) = _
        rw [p1, List.drop_of_length_le (by rw [List.length_take]; omega)]) (by omega)
      have q5 : ([] : List Int).length + ((s.take to_).drop fr).length < 140737488355328 := by rw [hpl]; simp only [List.length_nil]; omega
      have hgo := ih (i + 1) k (x18 ++ [piece s fr to_ false]) h' _ _ (by omega) (by omega) (by rw [List.length_append]; simp only [List.length_singleton]; omega) (by rw [etk]; exact R') (step2 _ _ _ eT) (by rw [List.length_append, List.length_append, hl2]; rfl) (by rw [p1]; exact ht)
      obtain ⟨d', ed1, ed2⟩ := l2_eq x4 x5 r y (x18 ++ [piece s fr to_ false]) n i 1 (fr : Int) false 0 (by rw [List.length_append]; simp only [List.length_singleton]; omega) (by omega) ((s.take to_).drop fr).length 0 k ((s.take to_).drop fr) (by omega) (by omega) (by omega)
      obtain ⟨t2, et2⟩ := do_dup R.inv hr (by omega) fr to_ e1 e2 e3 _ _ eT I' d' ed1 0
      have R3 : runH (h0F r) ((x18 ++ [piece s fr to_ false]) ++ [⟨1, (fr : Int), d', false, 0⟩]) = some (h', (ts2 ++ [toldA h' r c fr]) ++ [t2]) := by
        rw [runH_append, step2 _ _ _ eT, Option.bind_some, runH, et2, Option.bind_some, runH]
        rfl
      have hgo2 := ih (i + 1) (k - ((s.take to_).drop fr).length - 1) _ h' _ _ (by omega) (by omega) (by rw [List.length_append, List.length_append]; simp only [List.length_singleton]; omega) (by rw [etk]; exact R') R3 (by rw [List.length_append, List.length_append, List.length_append, List.length_append, hl2]; rfl) (by rw [p1]; exact ht)
      have hw : wrap64 ((i : Int) + 1) = ((i + 1 : Nat) : Int) := by clear p1 p2 p3; rw [wrap64_id (by omega) (by omega)]; omega
      rw [packthreadkeep_RecvTwice.l1, if_pos q1, if_pos q2, if_pos q3, if_pos q4, Option.bind_some, rd_mem y i hlt, e]
      rw [if_pos (show (piece s fr to_ false).f0 = 1 from rfl), picked_eq _ _ (by decide) (by decide), Option.bind_some, packthreadkeep_RecvTwice.j2]
      split
      · rw [rd_mem y i hlt, e]
        show (if ([] : List Int).length + ((s.take to_).drop fr).length < 140737488355328 then packthreadkeep_RecvTwice.l2 k x4 x5 r y (n : Int) (x18 ++ [piece s fr to_ false]) (i : Int) 0 1 (fr : Int) ([] ++ (s.take to_).drop fr) false 0 else none) = some true
        rw [if_pos q5, List.nil_append]
        exact ed2.trans hgo2
      · rw [hw]
        exact hgo
theorem RecvTwice : packthreadkeep_RecvTwice.Pure := by
  intro a0 a1 a2 l3 a4 a5 _ _ _ hm _ _ _ _
  obtain ⟨k, hk⟩ : ∃ k, 100000 ≤ k := ⟨100000, Nat.le_refl _⟩
  refine ⟨k, ?_⟩
  have hm' : l3.length ≤ 9000000000000000000 := by unfold maxLen at hm; omega
  unfold packthreadkeep_RecvTwice.f
  rw [picked_eq _ _ (by decide) (by decide), Option.bind_some, picked_eq _ _ (by decide) (by decide), Option.bind_some]
  have hx := mod_of (x := a0) (n := 300) (by decide)
  have hy := mod_of (x := a2) (n := 300) (by decide)
  obtain ⟨n, hn⟩ : ∃ n : Nat, 1 + a2 % 300 = (n : Int) := ⟨(1 + a2 % 300).toNat, by omega⟩
  obtain ⟨r, hr⟩ : ∃ r : Int, 1 + a0 % 300 = r := ⟨_, rfl⟩
  rw [wrap64_id (x := 1 + a2 % 300) (by omega) (by omega), wrap64_id (x := 1 + a0 % 300) (by omega) (by omega), hn, hr]
  obtain ⟨s, es, hsl, hso⟩ := stream_eq a1 n (by omega) k (by omega)
  rw [es, Option.bind_some]
  obtain ⟨as0, ea, hal, hao⟩ := arrivals_eq l3 s hm' (by omega) 80 (by decide) false k (by omega)
  have ea' : packthreadkeep_Arrivals.f k l3 s 80 false = some as0 := ea
  rw [ea', Option.bind_some]
  obtain ⟨y, e1, hyl, hy0⟩ := l0_eq a4 a5 r s as0.length (by omega) as0.length 0 k as0 (by omega) (by omega) rfl hao (fun j hj h => by omega)
  have e1' : packthreadkeep_RecvTwice.l0 k a4 a5 r as0 (as0.length : Int) 0 = _ := e1
  rw [e1']
  exact l1_eq a4 a5 r s (by omega) (by omega) y as0.length (by omega) hyl hy0 as0.length 0 _ [] (h0F r) [] [] (by omega) (by omega) (by simp) (by rw [List.take_zero]; exact runTo_nil s r false (by omega)) rfl rfl rfl

end Go.Proofs.Ytjbilachfipicaa.Pure
