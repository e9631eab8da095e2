/- Proved: for every input the law SegFixed answers true: bytes that are read as a segment are those of what was read, and what is not read is told by an error and an empty segment. Condition: none. -/
import Derived.Test.YtblkhkipbcpaiaaPSegFixedx4
namespace Go.Proofs.Ytblkhkipbcpaiaa.Pure
open Go.RowKit Go.Proofs.Ytblkhkipbcpaiaa.PSegFixed Go.Proofs.YtblkhkipbcpaiaaW.PrintWords Go.Proofs.YtblkhkipbcpaiaaW.PrintLast
set_option linter.unusedVariables false

theorem wrap64_id {x : Int} (h0 : -9223372036854775808 ≤ x) (h1 : x ≤ 9223372036854775807) : wrap64 x = x := by unfold wrap64; omega

def Oct (l : List Int) : Prop := ∀ x ∈ l, 0 ≤ x ∧ x ≤ 255
theorem oct_of {l : List Int} (h : ∀ x ∈ l, (Lit.int .u8 x).wf = true) : Oct l := fun x hx => by
  have := h x hx
  simp [Lit.wf, IntKind.min, IntKind.max, IntKind.signed, IntKind.bits] at this
  omega
theorem Oct.take {l : List Int} (h : Oct l) (n : Nat) : Oct (l.take n) := fun x hx => h x (List.mem_of_mem_take hx)
theorem Oct.append {a b : List Int} (h : Oct a) (g : Oct b) : Oct (a ++ b) := fun x hx => by
  rcases List.mem_append.1 hx with h1 | h1
  · exact h x h1
  · exact g x h1
theorem Oct.set {l : List Int} (h : Oct l) (i : Nat) (v : Int) (h0 : 0 ≤ v) (h1 : v ≤ 255) : Oct (l.set i v) := fun x hx => by
  rcases List.mem_or_eq_of_mem_set hx with h2 | h2
  · exact h x h2
  · subst h2; exact ⟨h0, h1⟩
theorem Oct.getD {l : List Int} (h : Oct l) (i : Nat) : 0 ≤ l.getD i 0 ∧ l.getD i 0 ≤ 255 := by
  by_cases c : i < l.length
  · rw [List.getD_eq_getElem?_getD, List.getElem?_eq_getElem c]; exact h _ (List.getElem_mem c)
  · rw [List.getD_eq_getElem?_getD, List.getElem?_eq_none (by omega)]; simp

/-- The sum of pairs, from an even place on (true) or from an odd one. -/
def S : Bool → List Int → Int
  | _, [] => 0
  | true, x :: r => 256 * x + S false r
  | false, x :: r => x + S true r
theorem S_t (x : Int) (r : List Int) : S true (x :: r) = 256 * x + S false r := rfl
theorem S_f (x : Int) (r : List Int) : S false (x :: r) = x + S true r := rfl
/-- A number, folded. -/
def F (n : Int) : Int := if n = 0 then 0 else (n - 1) % 65535 + 1
theorem F_range (n : Int) : 0 ≤ F n ∧ F n ≤ 65535 := by unfold F; split <;> omega
theorem F_small {n : Int} (h0 : 0 ≤ n) (h1 : n ≤ 65535) : F n = n := by unfold F; split <;> omega
theorem F_pos {n : Int} (h : n ≠ 0) : F n = (n - 1) % 65535 + 1 := by unfold F; rw [if_neg h]
theorem F_congr {a b : Int} (h : (a - b) % 65535 = 0) (ha : a ≠ 0) (hb : b ≠ 0) : F a = F b := by rw [F_pos ha, F_pos hb]; omega
theorem F_step {n : Int} (h : 65535 < n) : F (n / 65536 + n % 65536) = F n := F_congr (by omega) (by omega) (by omega)
theorem S_range : ∀ (l : List Int) (p : Bool), Oct l → 0 ≤ S p l ∧ S p l ≤ 65280 * (l.length : Int)
  | [], p, _ => by cases p <;> simp [S]
  | x :: r, p, h => by
    have hx := h x (List.mem_cons_self ..)
    have hr : Oct r := fun y hy => h y (List.mem_cons_of_mem _ hy)
    have h1 := S_range r true hr
    have h2 := S_range r false hr
    cases p <;> simp only [S, List.length_cons] <;> omega
/-- What parity follows so many bytes. -/
def par (p : Bool) (n : Nat) : Bool := if n % 2 = 0 then p else !p
theorem par_of (i : Nat) : par true i = decide (i % 2 = 0) := by
  unfold par
  by_cases h : i % 2 = 0
  · rw [if_pos h, decide_eq_true h]
  · rw [if_neg h, decide_eq_false h]; rfl
theorem par_zero (p : Bool) : par p 0 = p := rfl
theorem par_succ (p : Bool) (n : Nat) : par (!p) n = par p (n + 1) := by
  unfold par
  rcases Nat.mod_two_eq_zero_or_one n with h | h
  · rw [if_pos h, if_neg (by omega)]
  · rw [if_neg (by omega), if_pos (by omega), Bool.not_not]
theorem S_append : ∀ (a b : List Int) (p : Bool), S p (a ++ b) = S p a + S (par p a.length) b
  | [], b, p => by cases p <;> simp [S, par_zero]
  | x :: r, b, true => by
    rw [List.cons_append, S_t, S_t, S_append r b false, List.length_cons, ← par_succ]; simp only [Bool.not_true]; omega
  | x :: r, b, false => by
    rw [List.cons_append, S_f, S_f, S_append r b true, List.length_cons, ← par_succ]; simp only [Bool.not_false]; omega
def wt (p : Bool) (i : Nat) : Int := if par p i = true then 256 else 1
theorem wt_succ (p : Bool) (i : Nat) : wt p (i + 1) = wt (!p) i := by unfold wt; rw [par_succ]
theorem S_set (l : List Int) : ∀ (i : Nat) (v : Int) (p : Bool), i < l.length → S p (l.set i v) = S p l + wt p i * (v - l.getD i 0) := by
  induction l with
  | nil => intro i v p h; simp at h
  | cons x r ih =>
    intro i v p h
    cases i with
    | zero =>
      rw [List.set_cons_zero, List.getD_cons_zero]
      cases p
      · have e : wt false 0 = 1 := rfl
        rw [S_f, S_f, e]; omega
      · have e : wt true 0 = 256 := rfl
        rw [S_t, S_t, e]; omega
    | succ i =>
      have h' : i < r.length := by simpa using h
      rw [List.set_cons_succ, List.getD_cons_succ, wt_succ]
      cases p
      · rw [S_f, S_f, ih i v true h', Bool.not_false]
        generalize wt true i * (v - r.getD i 0) = z
        omega
      · rw [S_t, S_t, ih i v false h', Bool.not_true]
        generalize wt false i * (v - r.getD i 0) = z
        omega

theorem and16 {x : Int} (h0 : 0 ≤ x) (h1 : x < 2 ^ 62) : Go.bits .and .i64 x 65535 = x % 65536 :=
  bits_mask .i64 62 (by decide) (fun n h0 h1 => by rw [IntKind.wrap_i64]; omega) 16 (by decide) x h0 h1
theorem or8 {x y : Int} (h0 : 0 ≤ x) (h1 : x ≤ 255) (h2 : 0 ≤ y) (h3 : y ≤ 255) : Go.bits .or .i64 (x * 256) y = x * 256 + y :=
  bits_join .i64 31 (by decide) (fun n h0 h1 => by rw [IntKind.wrap_i64]; omega) 8 (x * 256) y (by omega) (by omega) (by omega) h2 (by omega) (by omega)
theorem fold_base (k : Nat) {n : Int} (h0 : 0 ≤ n) (h1 : n ≤ 65535) : inet_fold.l0 (k + 1) n = some (F n) := by
  rw [inet_fold.l0, if_neg (by omega), F_small h0 h1]
theorem fold_step (k : Nat) {n : Int} (h0 : 65535 < n) (h1 : n ≤ 281474976710656) : inet_fold.l0 (k + 1) n = inet_fold.l0 k (n / 65536 + n % 65536) := by
  rw [inet_fold.l0, if_pos h0, and16 (by omega) (by omega), wrap64_id (by omega) (by omega)]
theorem fold_up {b c : Int} {j : Nat} (hb : ∀ k n, 0 ≤ n → n ≤ b → inet_fold.l0 (k + j) n = some (F n)) (hc : c ≤ 281474976710656)
    (hs : ∀ n : Int, 65535 < n → n ≤ c → n / 65536 + n % 65536 ≤ b) : ∀ k n, 0 ≤ n → n ≤ c → inet_fold.l0 (k + (j + 1)) n = some (F n) := by
  intro k n h0 h1
  by_cases h : n ≤ 65535
  · exact fold_base (k + j) h0 h
  · rw [show k + (j + 1) = (k + j) + 1 by omega, fold_step _ (by omega) (by omega), hb k _ (by omega) (hs n (by omega) h1), F_step (by omega)]
theorem fold_eq (k : Nat) {n : Int} (hk : 4 ≤ k) (h0 : 0 ≤ n) (h1 : n ≤ 140737488355328) : inet_fold.f k n = some (F n) := by
  have a1 := fold_up (b := 65535) (c := 131070) (j := 1) (fun k n h0 h1 => fold_base k h0 h1) (by decide) (fun n _ _ => by omega)
  have a2 := fold_up (c := 4294967295) a1 (by decide) (fun n _ _ => by omega)
  have a3 := fold_up (c := 140737488355328) a2 (by decide) (fun n _ _ => by omega)
  have := a3 (k - 4) n h0 h1
  rw [show k - 4 + (1 + 1 + 1 + 1) = k by omega] at this
  exact this
theorem Fold_loop (xs : List Int) (ho : Oct xs) (hl : xs.length ≤ 1000000) (d : Nat) : ∀ (k i : Nat) (n : Int), i + d = xs.length → d + 5 ≤ k → 0 ≤ n → n ≤ 65280 * (i : Int) →
    inet_Fold.l0 k n xs (xs.length : Int) (i : Int) = some (F (n + S (par true i) (xs.drop i))) := by
  induction d with
  | zero =>
    intro k i n hi hk h0 h1
    obtain ⟨k, rfl⟩ : ∃ m, k = m + 1 := ⟨k - 1, by omega⟩
    rw [inet_Fold.l0, if_neg (by omega), List.drop_of_length_le (by omega), fold_eq k (by omega) h0 (by omega)]
    cases par true i <;> simp [S]
  | succ d ih =>
    intro k i n hi hk h0 h1
    obtain ⟨k, rfl⟩ : ∃ m, k = m + 1 := ⟨k - 1, by omega⟩
    have hx := ho.getD i
    have hr : rd xs (i : Int) = xs.getD i 0 := rfl
    have hd : xs.drop i = xs.getD i 0 :: xs.drop (i + 1) := by
      rw [List.drop_eq_getElem_cons (by omega : i < xs.length), List.getD_eq_getElem?_getD, List.getElem?_eq_getElem (by omega : i < xs.length)]; rfl
    have hp : par true (i + 1) = !(par true i) := by rw [← par_succ]; unfold par; split <;> rfl
    have e1 : ((i : Int) + 1) = ((i + 1 : Nat) : Int) := by omega
    rw [inet_Fold.l0, if_pos (by omega), if_pos (by omega), if_pos (by omega), hr, hd, wrap64_id (x := xs.getD i 0) (by omega) (by omega), wrap64_id (x := (i : Int) + 1) (by omega) (by omega), e1, Int.tmod_eq_emod_of_nonneg (by omega)]
    by_cases c : (i : Int) % 2 = 0
    · have hq : par true i = true := by rw [par_of]; exact decide_eq_true (by omega)
      rw [if_pos c, wrap64_id (x := xs.getD i 0 * 256) (by omega) (by omega), wrap64_id (by omega) (by omega), ih k (i + 1) _ (by omega) (by omega) (by omega) (by omega), hp, hq, S]
      simp only [Bool.not_true]
      congr 2; omega
    · have hq : par true i = false := by rw [par_of]; exact decide_eq_false (by omega)
      rw [if_neg c, wrap64_id (by omega) (by omega), ih k (i + 1) _ (by omega) (by omega) (by omega) (by omega), hp, hq, S]
      simp only [Bool.not_false]
      congr 2; omega
theorem Fold_eq (k : Nat) (xs : List Int) (ho : Oct xs) (hl : xs.length ≤ 1000000) (hk : xs.length + 5 ≤ k) : inet_Fold.f k xs = some (F (S true xs)) := by
  unfold inet_Fold.f
  have := Fold_loop xs ho hl xs.length k 0 0 (by omega) hk (by omega) (by omega)
  rw [par_zero, List.drop_zero, Int.zero_add] at this
  exact this

theorem Sum_eq (k : Nat) (xs : List Int) (ho : Oct xs) (hl : xs.length ≤ 1000000) (hk : xs.length + 5 ≤ k) : inet_Sum.f k xs = some (65535 - F (S true xs)) := by
  have := F_range (S true xs)
  unfold inet_Sum.f
  rw [Fold_eq k xs ho hl hk]
  simp only [Option.bind_some]
  rw [wrap64_id (by omega) (by omega)]

theorem fold_stepB (k : Nat) {n : Int} (h0 : 65535 < n) (h1 : n < 4611686018427387904) : inet_fold.l0 (k + 1) n = inet_fold.l0 k (n / 65536 + n % 65536) := by
  rw [inet_fold.l0, if_pos h0, and16 (by omega) (by omega), wrap64_id (by omega) (by omega)]
theorem fold_eqB (k : Nat) {n : Int} (hk : 5 ≤ k) (h0 : 0 ≤ n) (h1 : n < 4611686018427387904) : inet_fold.f k n = some (F n) := by
  by_cases h : n ≤ 140737488355328
  · exact fold_eq k (by omega) h0 h
  · obtain ⟨k, rfl⟩ : ∃ m, k = m + 1 := ⟨k - 1, by omega⟩
    unfold inet_fold.f
    rw [fold_stepB k (by omega) h1]
    have h2 := fold_eq k (n := n / 65536 + n % 65536) (by omega) (by omega) (by omega)
    unfold inet_fold.f at h2
    rw [h2, F_step (by omega)]
theorem Fold_loopB (xs : List Int) (ho : Oct xs) (hl : xs.length ≤ 140737488351232) (d : Nat) : ∀ (k i : Nat) (n : Int), i + d = xs.length → d + 6 ≤ k → 0 ≤ n → 2 * n ≤ 65535 * (i : Int) + 65025 * ((i : Int) % 2) →
    inet_Fold.l0 k n xs (xs.length : Int) (i : Int) = some (F (n + S (par true i) (xs.drop i))) := by
  induction d with
  | zero =>
    intro k i n hi hk h0 h1
    obtain ⟨k, rfl⟩ : ∃ m, k = m + 1 := ⟨k - 1, by omega⟩
    rw [inet_Fold.l0, if_neg (by omega), List.drop_of_length_le (by omega), fold_eqB k (by omega) h0 (by omega)]
    cases par true i <;> simp [S]
  | succ d ih =>
    intro k i n hi hk h0 h1
    obtain ⟨k, rfl⟩ : ∃ m, k = m + 1 := ⟨k - 1, by omega⟩
    have hx := ho.getD i
    have hr : rd xs (i : Int) = xs.getD i 0 := rfl
    have hd : xs.drop i = xs.getD i 0 :: xs.drop (i + 1) := by
      rw [List.drop_eq_getElem_cons (by omega : i < xs.length), List.getD_eq_getElem?_getD, List.getElem?_eq_getElem (by omega : i < xs.length)]; rfl
    have hp : par true (i + 1) = !(par true i) := by rw [← par_succ]; unfold par; split <;> rfl
    have e1 : ((i : Int) + 1) = ((i + 1 : Nat) : Int) := by omega
    rw [inet_Fold.l0, if_pos (by omega), if_pos (by omega), if_pos (by omega), hr, hd, wrap64_id (x := xs.getD i 0) (by omega) (by omega), wrap64_id (x := (i : Int) + 1) (by omega) (by omega), e1, Int.tmod_eq_emod_of_nonneg (by omega)]
    by_cases c : (i : Int) % 2 = 0
    · have hq : par true i = true := by rw [par_of]; exact decide_eq_true (by omega)
      rw [if_pos c, wrap64_id (x := xs.getD i 0 * 256) (by omega) (by omega), wrap64_id (by omega) (by omega), ih k (i + 1) _ (by omega) (by omega) (by omega) (by omega), hp, hq, S]
      simp only [Bool.not_true]
      congr 2; omega
    · have hq : par true i = false := by rw [par_of]; exact decide_eq_false (by omega)
      rw [if_neg c, wrap64_id (by omega) (by omega), ih k (i + 1) _ (by omega) (by omega) (by omega) (by omega), hp, hq, S]
      simp only [Bool.not_false]
      congr 2; omega
theorem Sum_big (k : Nat) (xs : List Int) (ho : Oct xs) (hl : xs.length ≤ 140737488351232) (hk : xs.length + 6 ≤ k) : inet_Sum.f k xs = some (65535 - F (S true xs)) := by
  have hF := F_range (S true xs)
  unfold inet_Sum.f inet_Fold.f
  have h := Fold_loopB xs ho hl xs.length k 0 0 (by omega) hk (by omega) (by omega)
  rw [par_zero, List.drop_zero, Int.zero_add] at h
  rw [show ((0 : Nat) : Int) = 0 from rfl] at h
  rw [h, Option.bind_some, wrap64_id (by omega) (by omega)]

theorem sameb_l0 (l : List Int) (hL : l.length ≤ 100000) : ∀ (m i k : Nat), i + m = l.length → m < k → packthreadkeep_sameBytes.l0 k l l (i : Int) = some true := by
  intro m
  induction m with
  | zero =>
    intro i k hi hk
    obtain ⟨k, rfl⟩ : ∃ q, k = q + 1 := ⟨k - 1, by omega⟩
    rw [packthreadkeep_sameBytes.l0, if_neg (by omega)]
  | succ m ih =>
    intro i k hi hk
    obtain ⟨k, rfl⟩ : ∃ q, k = q + 1 := ⟨k - 1, by omega⟩
    have hw1 : wrap64 ((i : Int) + 1) = ((i + 1 : Nat) : Int) := by rw [wrap64_id (by omega) (by omega)]; omega
    rw [packthreadkeep_sameBytes.l0, if_pos (by omega), if_pos (by omega), if_pos (by omega), if_pos rfl, hw1]
    exact ih (i + 1) k (by omega) (by omega)
theorem sameb_eq (k : Nat) (l : List Int) (hL : l.length ≤ 100000) (hk : l.length < k) : packthreadkeep_sameBytes.f k l l = some true := by
  unfold packthreadkeep_sameBytes.f
  rw [if_pos rfl]
  exact sameb_l0 l hL l.length 0 k (by omega) (by omega)

theorem octB_of {l : List Int} (h : Oct l) : octB l = true := by
  unfold octB
  rw [List.all_eq_true]
  intro x hx
  exact decide_eq_true (h x hx)
theorem rd_nat (l : List Int) (n : Nat) : rd l (n : Int) = l.getD n 0 := by unfold rd; rw [Int.toNat_natCast]
theorem wd_at {l : List Int} (h : Oct l) (n : Nat) : wd l n = l.getD n 0 * 256 + l.getD (n + 1) 0 := by
  have h0 := h.getD n
  have h1 := h.getD (n + 1)
  unfold wd
  rw [show ((n : Int) + 1) = ((n + 1 : Nat) : Int) by omega, rd_nat, rd_nat]
  exact or8 (by omega) (by omega) (by omega) (by omega)
/-- ten bytes and a rest -/
def H10 (x0 x1 x2 x3 x4 x5 x6 x7 x8 x9 : Int) (t : List Int) : List Int := x0 :: x1 :: x2 :: x3 :: x4 :: x5 :: x6 :: x7 :: x8 :: x9 :: t
theorem encL_eq (s a wn : Int) (b3 b4 b5 b6 : Bool) (l7 : List S52) (l8 : List Int) : encL s a wn b3 b4 b5 b6 l7 l8 = H10 (s / 256 % 256) (s % 256) (a / 256 % 256) (a % 256) (wn / 256 % 256) (wn % 256) (flgF b3 b4 b5 b6 4) (l7.length : Int) 0 0 (encS l7 ++ l8) := by
  unfold encL H10 tw
  simp
theorem seal_H (x0 x1 x2 x3 x4 x5 x6 x7 x8 x9 : Int) (t : List Int) (sm : Int) : sealF (H10 x0 x1 x2 x3 x4 x5 x6 x7 x8 x9 t) sm = H10 x0 x1 x2 x3 x4 x5 x6 x7 (sm / 256 % 256) (sm % 256) t := rfl
theorem blank_H (x0 x1 x2 x3 x4 x5 x6 x7 x8 x9 : Int) (t : List Int) : blankF (H10 x0 x1 x2 x3 x4 x5 x6 x7 x8 x9 t) = H10 x0 x1 x2 x3 x4 x5 x6 x7 0 0 t := rfl
theorem flg_rng (b3 b4 b5 b6 : Bool) : 0 ≤ flgF b3 b4 b5 b6 4 ∧ flgF b3 b4 b5 b6 4 < 16 := by cases b3 <;> cases b4 <;> cases b5 <;> cases b6 <;> decide
theorem flg_0 (b3 b4 b5 b6 : Bool) : (Go.bits .and .u8 (flgF b3 b4 b5 b6 4) 1 == 1) = b3 := by cases b3 <;> cases b4 <;> cases b5 <;> cases b6 <;> decide
theorem flg_1 (b3 b4 b5 b6 : Bool) : (Go.bits .and .u8 (flgF b3 b4 b5 b6 4 / 2) 1 == 1) = b4 := by cases b3 <;> cases b4 <;> cases b5 <;> cases b6 <;> decide
theorem flg_2 (b3 b4 b5 b6 : Bool) : (Go.bits .and .u8 (flgF b3 b4 b5 b6 4 / 4) 1 == 1) = b5 := by cases b3 <;> cases b4 <;> cases b5 <;> cases b6 <;> decide
theorem flg_3 (b3 b4 b5 b6 : Bool) : (Go.bits .and .u8 (flgF b3 b4 b5 b6 4 / 8) 1 == 1) = b6 := by cases b3 <;> cases b4 <;> cases b5 <;> cases b6 <;> decide
/-- ranges out of bytes -/
def gS : List Int → Nat → List S52
  | _, 0 => []
  | p :: q :: r :: u :: t, n + 1 => ⟨p * 256 + q, r * 256 + u⟩ :: gS t n
  | _, _ => []
theorem encS_cons (r : S52) (l : List S52) : encS (r :: l) = (r.f0 / 256 % 256) :: (r.f0 % 256) :: (r.f1 / 256 % 256) :: (r.f1 % 256) :: encS l := by simp [encS, tw]
theorem gS_enc (r : List Int) : ∀ (l : List S52), serB l = true → gS (encS l ++ r) l.length = l
  | [], _ => by cases r <;> rfl
  | x :: l, h => by
    have hx : decide (0 ≤ x.f0 ∧ x.f0 < 65536 ∧ 0 ≤ x.f1 ∧ x.f1 < 65536) = true := by
      unfold serB at h; rw [List.all_eq_true] at h; exact h x (List.mem_cons_self ..)
    have hx2 := of_decide_eq_true hx
    have hl : serB l = true := by
      unfold serB at h ⊢; rw [List.all_eq_true] at h ⊢; exact fun y hy => h y (List.mem_cons_of_mem _ hy)
    rw [encS_cons, List.length_cons]
    show ⟨x.f0 / 256 % 256 * 256 + x.f0 % 256, x.f1 / 256 % 256 * 256 + x.f1 % 256⟩ :: gS (encS l ++ r) l.length = x :: l
    rw [gS_enc r l hl, show x.f0 / 256 % 256 * 256 + x.f0 % 256 = x.f0 by omega, show x.f1 / 256 % 256 * 256 + x.f1 % 256 = x.f1 by omega]
theorem gS_map : ∀ (n : Nat) (t : List Int), 4 * n ≤ t.length → (List.range n).map (fun j => (⟨t.getD (4 * j) 0 * 256 + t.getD (4 * j + 1) 0, t.getD (4 * j + 2) 0 * 256 + t.getD (4 * j + 3) 0⟩ : S52)) = gS t n
  | 0, t, _ => by cases t <;> rfl
  | n + 1, t, h => by
    match t, h with
    | p :: q :: r :: u :: t, h =>
      rw [List.range_succ_eq_map, List.map_cons, List.map_map]
      have h2 : 4 * n ≤ t.length := by simp only [List.length_cons] at h; omega
      rw [show gS (p :: q :: r :: u :: t) (n + 1) = ⟨p * 256 + q, r * 256 + u⟩ :: gS t n from rfl, ← gS_map n t h2]
      rfl
    | [], h => simp at h
    | [_], h => simp only [List.length_cons, List.length_nil] at h; omega
    | [_, _], h => simp only [List.length_cons, List.length_nil] at h; omega
    | [_, _, _], h => simp only [List.length_cons, List.length_nil] at h; omega
theorem dS_H (x0 x1 x2 x3 x4 x5 x6 x7 x8 x9 : Int) (t : List Int) (ho : Oct (H10 x0 x1 x2 x3 x4 x5 x6 x7 x8 x9 t)) (n : Nat) (hn : 4 * n ≤ t.length) : dS (H10 x0 x1 x2 x3 x4 x5 x6 x7 x8 x9 t) n = gS t n := by
  rw [← gS_map n t hn]
  unfold dS
  apply List.map_congr_left
  intro j hj
  rw [wd_at ho, wd_at ho]
  have e : ∀ m, (H10 x0 x1 x2 x3 x4 x5 x6 x7 x8 x9 t).getD (10 + m) 0 = t.getD m 0 := fun m => by
    rw [show 10 + m = m + 10 by omega]; rfl
  rw [show 10 + 4 * j + 1 = 10 + (4 * j + 1) by omega, show 10 + 4 * j + 2 = 10 + (4 * j + 2) by omega, show 10 + (4 * j + 2) + 1 = 10 + (4 * j + 3) by omega, e, e, e, e]
theorem encS_length : ∀ (l : List S52), (encS l).length = 4 * l.length
  | [] => rfl
  | r :: l => by rw [encS_cons]; simp only [List.length_cons]; rw [encS_length l]; omega
theorem encS_oct : ∀ (l : List S52), Oct (encS l)
  | [] => fun x hx => by cases hx
  | r :: l => by
    rw [encS_cons]
    intro x hx
    simp only [List.mem_cons] at hx
    rcases hx with h | h | h | h | h
    · omega
    · omega
    · omega
    · omega
    · exact encS_oct l x h
theorem H10_oct {x0 x1 x2 x3 x4 x5 x6 x7 x8 x9 : Int} {t : List Int} (h0 : 0 ≤ x0 ∧ x0 ≤ 255) (h1 : 0 ≤ x1 ∧ x1 ≤ 255) (h2 : 0 ≤ x2 ∧ x2 ≤ 255) (h3 : 0 ≤ x3 ∧ x3 ≤ 255) (h4 : 0 ≤ x4 ∧ x4 ≤ 255) (h5 : 0 ≤ x5 ∧ x5 ≤ 255) (h6 : 0 ≤ x6 ∧ x6 ≤ 255) (h7 : 0 ≤ x7 ∧ x7 ≤ 255) (h8 : 0 ≤ x8 ∧ x8 ≤ 255) (h9 : 0 ≤ x9 ∧ x9 ≤ 255) (ht : Oct t) : Oct (H10 x0 x1 x2 x3 x4 x5 x6 x7 x8 x9 t) := by
  intro x hx
  unfold H10 at hx
  simp only [List.mem_cons] at hx
  rcases hx with rfl | rfl | rfl | rfl | rfl | rfl | rfl | rfl | rfl | rfl | h
  · exact h0
  · exact h1
  · exact h2
  · exact h3
  · exact h4
  · exact h5
  · exact h6
  · exact h7
  · exact h8
  · exact h9
  · exact ht x h
theorem H10_len (x0 x1 x2 x3 x4 x5 x6 x7 x8 x9 : Int) (t : List Int) : (H10 x0 x1 x2 x3 x4 x5 x6 x7 x8 x9 t).length = t.length + 10 := rfl
/-- the fields of a segment that is sent -/
def OkS (s a wn : Int) (b6 : Bool) (l7 : List S52) (l8 : List Int) : Prop := (0 ≤ s ∧ s < 65536) ∧ (0 ≤ a ∧ a < 65536) ∧ (0 ≤ wn ∧ wn ≤ 65535) ∧ serB l7 = true ∧ l7.length ≤ 3 ∧ l8.length ≤ 64 ∧ faultF a wn b6 l7.length l8.length = 0
theorem encL_oct {s a wn : Int} {b3 b4 b5 b6 : Bool} {l7 : List S52} {l8 : List Int} (ho : Oct l8) (h : OkS s a wn b6 l7 l8) (sm : Int) : Oct (sealF (encL s a wn b3 b4 b5 b6 l7 l8) sm) := by
  have hf := flg_rng b3 b4 b5 b6
  obtain ⟨_, _, _, _, h3, _, _⟩ := h
  rw [encL_eq, seal_H]
  exact H10_oct (by omega) (by omega) (by omega) (by omega) (by omega) (by omega) (by omega) (by omega) (by omega) (by omega) ((encS_oct l7).append ho)
theorem encL_oct0 {s a wn : Int} {b3 b4 b5 b6 : Bool} {l7 : List S52} {l8 : List Int} (ho : Oct l8) (h : OkS s a wn b6 l7 l8) : Oct (encL s a wn b3 b4 b5 b6 l7 l8) := by
  have hf := flg_rng b3 b4 b5 b6
  obtain ⟨_, _, _, _, h3, _, _⟩ := h
  rw [encL_eq]
  exact H10_oct (by omega) (by omega) (by omega) (by omega) (by omega) (by omega) (by omega) (by omega) (by omega) (by omega) ((encS_oct l7).append ho)
theorem encL_len (s a wn : Int) (b3 b4 b5 b6 : Bool) (l7 : List S52) (l8 : List Int) : (encL s a wn b3 b4 b5 b6 l7 l8).length = 10 + 4 * l7.length + l8.length := by
  rw [encL_eq, H10_len, List.length_append, encS_length]; omega
theorem seal_len (e : List Int) (sm : Int) : (sealF e sm).length = e.length := by unfold sealF; rw [List.length_set, List.length_set]
def smF (e : List Int) : Int := 65535 - F (S true e)
theorem sm_rng (e : List Int) : 0 ≤ smF e ∧ smF e ≤ 65535 := by have := F_range (S true e); unfold smF; omega
theorem enc_is {s a wn : Int} {b3 b4 b5 b6 : Bool} {l7 : List S52} {l8 : List Int} (ho : Oct l8) (h : OkS s a wn b6 l7 l8) : seg_Encode.f s a wn b3 b4 b5 b6 l7 l8 = some (sealF (encL s a wn b3 b4 b5 b6 l7 l8) (smF (encL s a wn b3 b4 b5 b6 l7 l8)), 0) := by
  have hl := encL_len s a wn b3 b4 b5 b6 l7 l8
  have hb : l7.length ≤ 3 ∧ l8.length ≤ 64 := ⟨h.2.2.2.2.1, h.2.2.2.2.2.1⟩
  unfold OkS at h
  unfold seg_Encode.f
  rw [if_pos h, Sum_eq 1000 _ (encL_oct0 ho h) (by omega) (by omega), Option.bind_some]
  rfl
/-- what is read of ten bytes and a rest -/
theorem dec_H {x0 x1 x2 x3 x4 x5 x6 x7 x8 x9 : Int} {t : List Int} (ho : Oct (H10 x0 x1 x2 x3 x4 x5 x6 x7 x8 x9 t)) (hl : t.length ≤ 1000) :
    seg_Decode.f (H10 x0 x1 x2 x3 x4 x5 x6 x7 x8 x9 t) = some (decF (smF (H10 x0 x1 x2 x3 x4 x5 x6 x7 0 0 t)) (H10 x0 x1 x2 x3 x4 x5 x6 x7 x8 x9 t)) := by
  have hlen := H10_len x0 x1 x2 x3 x4 x5 x6 x7 x8 x9 t
  have hob : Oct (H10 x0 x1 x2 x3 x4 x5 x6 x7 0 0 t) := by
    have := (ho.set 8 0 (by decide) (by decide)).set 9 0 (by decide) (by decide)
    exact this
  unfold seg_Decode.f
  rw [if_neg (by omega), if_pos ⟨by omega, octB_of ho⟩, blank_H, Sum_eq _ _ hob (by rw [H10_len]; omega) (by rw [hlen, H10_len]; omega), Option.bind_some]
  rfl
theorem w8_H {x0 x1 x2 x3 x4 x5 x6 x7 x8 x9 : Int} {t : List Int} (ho : Oct (H10 x0 x1 x2 x3 x4 x5 x6 x7 x8 x9 t)) : wd (H10 x0 x1 x2 x3 x4 x5 x6 x7 x8 x9 t) 8 = x8 * 256 + x9 := wd_at ho 8
/-- A SEGMENT COMES BACK. -/
theorem dec_enc {s a wn : Int} {b3 b4 b5 b6 : Bool} {l7 : List S52} {l8 : List Int} (ho : Oct l8) (h : OkS s a wn b6 l7 l8) :
    seg_Decode.f (sealF (encL s a wn b3 b4 b5 b6 l7 l8) (smF (encL s a wn b3 b4 b5 b6 l7 l8))) = some (s, a, wn, b3, b4, b5, b6, l7, l8, 0) := by
  have hO := encL_oct (b3 := b3) (b4 := b4) (b5 := b5) ho h (smF (encL s a wn b3 b4 b5 b6 l7 l8))
  have hr := sm_rng (encL s a wn b3 b4 b5 b6 l7 l8)
  obtain ⟨hs, ha, hw, hg, h3, h64, hf⟩ := h
  have hfl := flg_rng b3 b4 b5 b6
  have hE := encL_eq s a wn b3 b4 b5 b6 l7 l8
  generalize hsm : smF (encL s a wn b3 b4 b5 b6 l7 l8) = sm at *
  rw [hE, seal_H] at hO ⊢
  rw [dec_H hO (by rw [List.length_append, encS_length]; omega), ← hE, hsm]
  have w0 : wd _ 0 = _ := wd_at hO 0
  have w2 : wd _ 2 = _ := wd_at hO 2
  have w4 : wd _ 4 = _ := wd_at hO 4
  have w8 := w8_H hO
  have hd := dS_H _ _ _ _ _ _ _ _ _ _ _ hO l7.length (by rw [List.length_append, encS_length]; omega)
  rw [gS_enc l8 l7 hg] at hd
  generalize hX : H10 (s / 256 % 256) (s % 256) (a / 256 % 256) (a % 256) (wn / 256 % 256) (wn % 256) (flgF b3 b4 b5 b6 4) (l7.length : Int) (sm / 256 % 256) (sm % 256) (encS l7 ++ l8) = X at *
  have r6 : rd X 6 = flgF b3 b4 b5 b6 4 := by rw [← hX]; rfl
  have r7 : rd X 7 = (l7.length : Int) := by rw [← hX]; rfl
  have v0 : wd X 0 = s := by rw [w0, ← hX]; show s / 256 % 256 * 256 + s % 256 = s; omega
  have v2 : wd X 2 = a := by rw [w2, ← hX]; show a / 256 % 256 * 256 + a % 256 = a; omega
  have v4 : wd X 4 = wn := by rw [w4, ← hX]; show wn / 256 % 256 * 256 + wn % 256 = wn; omega
  have hlen : X.length = 10 + 4 * l7.length + l8.length := by rw [← hX, H10_len, List.length_append, encS_length]; omega
  have hdr : X.drop (10 + 4 * l7.length) = l8 := by
    rw [← hX]
    show (H10 _ _ _ _ _ _ _ _ _ _ (encS l7 ++ l8)).drop (10 + 4 * l7.length) = l8
    rw [show 10 + 4 * l7.length = 4 * l7.length + 10 by omega]
    show (encS l7 ++ l8).drop (4 * l7.length) = l8
    rw [← encS_length l7, List.drop_left]
  have t0 : PSegFixed.bt X 0 = b3 := by unfold PSegFixed.bt; rw [r6]; exact flg_0 b3 b4 b5 b6
  have t1 : PSegFixed.bt X 1 = b4 := by unfold PSegFixed.bt; rw [r6]; exact flg_1 b3 b4 b5 b6
  have t2 : PSegFixed.bt X 2 = b5 := by unfold PSegFixed.bt; rw [r6]; exact flg_2 b3 b4 b5 b6
  have t3 : PSegFixed.bt X 3 = b6 := by unfold PSegFixed.bt; rw [r6]; exact flg_3 b3 b4 b5 b6
  unfold decF
  rw [if_neg (by rw [w8]; omega), r6, r7, Int.toNat_natCast, if_neg (by omega), v2, v4, t3, hlen, show 10 + 4 * l7.length + l8.length - (10 + 4 * l7.length) = l8.length by omega, hf, if_neg (by decide), v0, t0, t1, t2, hd, hdr]

theorem samer_l0 (l : List S52) (hL : l.length ≤ 100000) : ∀ (m i k : Nat), i + m = l.length → m < k → packthreadkeep_sameRanges.l0 k l l (i : Int) = some true := by
  intro m
  induction m with
  | zero =>
    intro i k hi hk
    obtain ⟨k, rfl⟩ : ∃ q, k = q + 1 := ⟨k - 1, by omega⟩
    rw [packthreadkeep_sameRanges.l0, if_neg (by omega)]
  | succ m ih =>
    intro i k hi hk
    obtain ⟨k, rfl⟩ : ∃ q, k = q + 1 := ⟨k - 1, by omega⟩
    have hw1 : wrap64 ((i : Int) + 1) = ((i + 1 : Nat) : Int) := by rw [wrap64_id (by omega) (by omega)]; omega
    rw [packthreadkeep_sameRanges.l0, if_pos (by omega), if_pos (by omega), if_pos (by omega), if_neg (by simp), hw1]
    exact ih (i + 1) k (by omega) (by omega)
theorem samer_eq (k : Nat) (l : List S52) (hL : l.length ≤ 100000) (hk : l.length < k) : packthreadkeep_sameRanges.f k l l = some true := by
  unfold packthreadkeep_sameRanges.f
  rw [if_pos rfl]
  exact samer_l0 l hL l.length 0 k (by omega) (by omega)
theorem sameS_eq (k : Nat) (s a wn : Int) (b3 b4 b5 b6 : Bool) (l7 : List S52) (l8 : List Int) (h7 : l7.length ≤ 3) (h8 : l8.length ≤ 64) (hk : 1000 ≤ k) : packthreadkeep_sameSegment.f k s a wn b3 b4 b5 b6 l7 l8 s a wn b3 b4 b5 b6 l7 l8 = some true := by
  unfold packthreadkeep_sameSegment.f
  have e : ∀ b : Bool, (b == b) = true := fun b => by cases b <;> rfl
  rw [if_pos rfl, if_pos rfl, if_pos rfl, if_pos (e b3), if_pos (e b4), if_pos (e b5), if_pos (e b6), samer_eq k l7 (by omega) (by omega), Option.bind_some, if_pos rfl, sameb_eq k l8 (by omega) (by omega), Option.bind_some]

theorem flg_back (x : Int) (h0 : 0 ≤ x) (h1 : x < 16) : flgF (Go.bits .and .u8 x 1 == 1) (Go.bits .and .u8 (x / 2) 1 == 1) (Go.bits .and .u8 (x / 4) 1 == 1) (Go.bits .and .u8 (x / 8) 1 == 1) 4 = x := by
  have h : x = 0 ∨ x = 1 ∨ x = 2 ∨ x = 3 ∨ x = 4 ∨ x = 5 ∨ x = 6 ∨ x = 7 ∨ x = 8 ∨ x = 9 ∨ x = 10 ∨ x = 11 ∨ x = 12 ∨ x = 13 ∨ x = 14 ∨ x = 15 := by omega
  rcases h with rfl | rfl | rfl | rfl | rfl | rfl | rfl | rfl | rfl | rfl | rfl | rfl | rfl | rfl | rfl | rfl <;> decide
theorem enc_gS : ∀ (n : Nat) (t : List Int), Oct t → 4 * n ≤ t.length → encS (gS t n) ++ t.drop (4 * n) = t
  | 0, t, _, _ => by cases t <;> rfl
  | n + 1, t, ho, h => by
    match t, ho, h with
    | p :: q :: r :: u :: t, ho, h =>
      have h2 : 4 * n ≤ t.length := by simp only [List.length_cons] at h; omega
      have hp := ho p (by simp)
      have hq := ho q (by simp)
      have hr := ho r (by simp)
      have hu := ho u (by simp)
      have ht : Oct t := fun x hx => ho x (by simp [hx])
      rw [show gS (p :: q :: r :: u :: t) (n + 1) = ⟨p * 256 + q, r * 256 + u⟩ :: gS t n from rfl, encS_cons, show 4 * (n + 1) = 4 * n + 4 by omega]
      show ((p * 256 + q) / 256 % 256) :: ((p * 256 + q) % 256) :: ((r * 256 + u) / 256 % 256) :: ((r * 256 + u) % 256) :: (encS (gS t n) ++ t.drop (4 * n)) = _
      rw [enc_gS n t ht h2, show (p * 256 + q) / 256 % 256 = p by omega, show (p * 256 + q) % 256 = q by omega, show (r * 256 + u) / 256 % 256 = r by omega, show (r * 256 + u) % 256 = u by omega]
    | [], _, h => simp at h
    | [_], _, h => simp only [List.length_cons, List.length_nil] at h; omega
    | [_, _], _, h => simp only [List.length_cons, List.length_nil] at h; omega
    | [_, _, _], _, h => simp only [List.length_cons, List.length_nil] at h; omega
theorem gS_len : ∀ (n : Nat) (t : List Int), 4 * n ≤ t.length → (gS t n).length = n
  | 0, t, _ => by cases t <;> rfl
  | n + 1, t, h => by
    match t, h with
    | p :: q :: r :: u :: t, h =>
      have h2 : 4 * n ≤ t.length := by simp only [List.length_cons] at h; omega
      rw [show gS (p :: q :: r :: u :: t) (n + 1) = ⟨p * 256 + q, r * 256 + u⟩ :: gS t n from rfl, List.length_cons, gS_len n t h2]
    | [], h => simp at h
    | [_], h => simp only [List.length_cons, List.length_nil] at h; omega
    | [_, _], h => simp only [List.length_cons, List.length_nil] at h; omega
    | [_, _, _], h => simp only [List.length_cons, List.length_nil] at h; omega
theorem gS_ser : ∀ (n : Nat) (t : List Int), Oct t → serB (gS t n) = true
  | 0, t, _ => by cases t <;> rfl
  | n + 1, t, ho => by
    match t, ho with
    | p :: q :: r :: u :: t, ho =>
      have hp := ho p (by simp)
      have hq := ho q (by simp)
      have hr := ho r (by simp)
      have hu := ho u (by simp)
      have ht : Oct t := fun x hx => ho x (by simp [hx])
      rw [show gS (p :: q :: r :: u :: t) (n + 1) = ⟨p * 256 + q, r * 256 + u⟩ :: gS t n from rfl]
      have ih := gS_ser n t ht
      unfold serB at ih ⊢
      rw [List.all_cons, ih, Bool.and_true]
      exact decide_eq_true (by dsimp only; omega)
    | [], _ => rfl
    | [_], _ => rfl
    | [_, _], _ => rfl
    | [_, _, _], _ => rfl
theorem H10_of (b : List Int) (h : 10 ≤ b.length) : ∃ x0 x1 x2 x3 x4 x5 x6 x7 x8 x9 t, b = H10 x0 x1 x2 x3 x4 x5 x6 x7 x8 x9 t := by
  match b, h with
  | x0 :: x1 :: x2 :: x3 :: x4 :: x5 :: x6 :: x7 :: x8 :: x9 :: t, _ => exact ⟨x0, x1, x2, x3, x4, x5, x6, x7, x8, x9, t, rfl⟩
  | [], h => simp at h
  | [_], h => simp at h
  | [_, _], h => simp at h
  | [_, _, _], h => simp at h
  | [_, _, _, _], h => simp at h
  | [_, _, _, _, _], h => simp at h
  | [_, _, _, _, _, _], h => simp at h
  | [_, _, _, _, _, _, _], h => simp at h
  | [_, _, _, _, _, _, _, _], h => simp at h
  | [_, _, _, _, _, _, _, _, _], h => simp at h
/-- WHAT IS READ IS SENT AS IT WAS -/
theorem dec_back (b : List Int) (ho : Oct b) (h10 : 10 ≤ b.length) (sm : Int) (hsm : sm = smF (blankF b)) :
    decF sm b = zSeg 6 ∨ decF sm b = zSeg 4 ∨ ∃ (s a wn : Int) (b3 b4 b5 b6 : Bool) (l7 : List S52) (l8 : List Int), decF sm b = (s, a, wn, b3, b4, b5, b6, l7, l8, 0) ∧ seg_Encode.f s a wn b3 b4 b5 b6 l7 l8 = some (b, 0) ∧ b.length ≤ 100 := by
  obtain ⟨x0, x1, x2, x3, x4, x5, x6, x7, x8, x9, t, rfl⟩ := H10_of b h10
  have o0 := ho x0 (by simp [H10])
  have o1 := ho x1 (by simp [H10])
  have o2 := ho x2 (by simp [H10])
  have o3 := ho x3 (by simp [H10])
  have o4 := ho x4 (by simp [H10])
  have o5 := ho x5 (by simp [H10])
  have o6 := ho x6 (by simp [H10])
  have o7 := ho x7 (by simp [H10])
  have o8 := ho x8 (by simp [H10])
  have o9 := ho x9 (by simp [H10])
  have ht : Oct t := fun x hx => ho x (by simp [H10, hx])
  have w0 : wd _ 0 = x0 * 256 + x1 := wd_at ho 0
  have w2 : wd _ 2 = x2 * 256 + x3 := wd_at ho 2
  have w4 : wd _ 4 = x4 * 256 + x5 := wd_at ho 4
  have w8 : wd _ 8 = x8 * 256 + x9 := wd_at ho 8
  obtain ⟨n, rfl⟩ : ∃ n : Nat, x7 = (n : Int) := ⟨x7.toNat, by omega⟩
  have hlen := H10_len x0 x1 x2 x3 x4 x5 x6 (n : Int) x8 x9 t
  unfold decF
  rw [w8, w0, w2, w4]
  have r6 : rd (H10 x0 x1 x2 x3 x4 x5 x6 (n : Int) x8 x9 t) 6 = x6 := rfl
  have r7 : rd (H10 x0 x1 x2 x3 x4 x5 x6 (n : Int) x8 x9 t) 7 = (n : Int) := rfl
  rw [r6, r7, Int.toNat_natCast]
  by_cases c1 : sm ≠ x8 * 256 + x9
  · exact .inl (if_pos c1)
  · rw [if_neg c1]
    by_cases c2 : 16 ≤ x6 ∨ (H10 x0 x1 x2 x3 x4 x5 x6 (n : Int) x8 x9 t).length < 10 + 4 * n
    · exact .inr (.inl (if_pos c2))
    · rw [if_neg c2]
      have hn : 4 * n ≤ t.length := by omega
      have hd := dS_H _ _ _ _ _ _ _ _ _ _ _ ho n hn
      have hdr : (H10 x0 x1 x2 x3 x4 x5 x6 (n : Int) x8 x9 t).drop (10 + 4 * n) = t.drop (4 * n) := by
        rw [show 10 + 4 * n = 4 * n + 10 by omega]; rfl
      have t0 : PSegFixed.bt (H10 x0 x1 x2 x3 x4 x5 x6 (n : Int) x8 x9 t) 0 = (Go.bits .and .u8 x6 1 == 1) := rfl
      have t1 : PSegFixed.bt (H10 x0 x1 x2 x3 x4 x5 x6 (n : Int) x8 x9 t) 1 = (Go.bits .and .u8 (x6 / 2) 1 == 1) := rfl
      have t2 : PSegFixed.bt (H10 x0 x1 x2 x3 x4 x5 x6 (n : Int) x8 x9 t) 2 = (Go.bits .and .u8 (x6 / 4) 1 == 1) := rfl
      have t3 : PSegFixed.bt (H10 x0 x1 x2 x3 x4 x5 x6 (n : Int) x8 x9 t) 3 = (Go.bits .and .u8 (x6 / 8) 1 == 1) := rfl
      rw [t0, t1, t2, t3, hd, hdr]
      by_cases c3 : faultF (x2 * 256 + x3) (x4 * 256 + x5) (Go.bits .and .u8 (x6 / 8) 1 == 1) n ((H10 x0 x1 x2 x3 x4 x5 x6 (n : Int) x8 x9 t).length - (10 + 4 * n)) ≠ 0
      · exact .inr (.inl (if_pos c3))
      · rw [if_neg c3]
        have c4 : faultF (x2 * 256 + x3) (x4 * 256 + x5) (Go.bits .and .u8 (x6 / 8) 1 == 1) n (t.drop (4 * n)).length = 0 := by
          rw [List.length_drop]
          rw [hlen, show t.length + 10 - (10 + 4 * n) = t.length - 4 * n by omega] at c3
          exact Decidable.of_not_not c3
        have c5 : n ≤ 3 ∧ (t.drop (4 * n)).length ≤ 64 := by
          by_cases h : 3 < n ∨ 64 < (t.drop (4 * n)).length
          · unfold faultF at c4; rw [if_pos h] at c4; exact absurd c4 (by decide)
          · omega
        have hgl := gS_len n t hn
        refine .inr (.inr ⟨_, _, _, _, _, _, _, _, _, rfl, ?_, ?_⟩)
        · rw [enc_is (fun x hx => ht x (List.mem_of_mem_drop hx)) ⟨by omega, by omega, by omega, gS_ser n t ht, by omega, c5.2, by rw [hgl]; exact c4⟩]
          have hE : encL (x0 * 256 + x1) (x2 * 256 + x3) (x4 * 256 + x5) (Go.bits .and .u8 x6 1 == 1) (Go.bits .and .u8 (x6 / 2) 1 == 1) (Go.bits .and .u8 (x6 / 4) 1 == 1) (Go.bits .and .u8 (x6 / 8) 1 == 1) (gS t n) (t.drop (4 * n)) = H10 x0 x1 x2 x3 x4 x5 x6 (n : Int) 0 0 t := by
            rw [encL_eq, enc_gS n t ht hn, hgl, flg_back x6 o6.1 (by omega), show (x0 * 256 + x1) / 256 % 256 = x0 by omega, show (x0 * 256 + x1) % 256 = x1 by omega, show (x2 * 256 + x3) / 256 % 256 = x2 by omega, show (x2 * 256 + x3) % 256 = x3 by omega, show (x4 * 256 + x5) / 256 % 256 = x4 by omega, show (x4 * 256 + x5) % 256 = x5 by omega]
          rw [blank_H] at hsm
          rw [hE, seal_H, ← hsm, show sm / 256 % 256 = x8 by omega, show sm % 256 = x9 by omega]
        · rw [hlen]; rw [List.length_drop] at c5; omega

theorem fixed_ten : seg_Decode.f [0, 0, 0, 0, 0, 0, 0, 0, 255, 255] = some (0, 0, 0, false, false, false, false, [], [], 0) := by
  have ho : Oct (H10 0 0 0 0 0 0 0 0 255 255 []) := H10_oct (by decide) (by decide) (by decide) (by decide) (by decide) (by decide) (by decide) (by decide) (by decide) (by decide) (fun x hx => by cases hx)
  have h := dec_H ho (by decide)
  have e : smF (H10 0 0 0 0 0 0 0 0 0 0 []) = 65535 := by decide
  rw [e] at h
  refine h.trans ?_
  rfl
theorem SegFixed : packthreadkeep_SegFixed.Pure := by
  intro l0 hl h0
  have ho := oct_of h0
  obtain ⟨k, hk⟩ : ∃ k, 2000 ≤ k := ⟨2000, Nat.le_refl _⟩
  have hn : seg_Decode.f [] = some (zSeg 5) := by unfold seg_Decode.f; rw [if_pos (by decide)]
  have hz := sameS_eq k 0 0 0 false false false false [] [] (by decide) (by decide) (by omega)
  by_cases c : l0.length < 10
  · exact ⟨k, 0, 0, 0, false, false, false, false, [], [], 5, by unfold seg_Decode.f; rw [if_pos c]; rfl, fixed_ten, hn, hz, .inr ⟨.inl rfl, rfl, rfl, rfl, rfl, rfl, rfl, rfl, rfl, rfl⟩⟩
  · have hob : Oct (blankF l0) := (ho.set 8 0 (by decide) (by decide)).set 9 0 (by decide) (by decide)
    have hbl : (blankF l0).length = l0.length := by unfold blankF; rw [List.length_set, List.length_set]
    have hd : seg_Decode.f l0 = some (decF (smF (blankF l0)) l0) := by
      unfold seg_Decode.f
      rw [if_neg c, if_pos ⟨by omega, octB_of ho⟩, Sum_big _ _ hob (by omega) (by omega), Option.bind_some]
      rfl
    rcases dec_back l0 ho (by omega) _ rfl with h | h | ⟨s, a, wn, b3, b4, b5, b6, l7, l8, h1, h2, h3⟩
    · exact ⟨k, 0, 0, 0, false, false, false, false, [], [], 6, by rw [hd, h]; rfl, fixed_ten, hn, hz, .inr ⟨.inr (.inl rfl), rfl, rfl, rfl, rfl, rfl, rfl, rfl, rfl, rfl⟩⟩
    · exact ⟨k, 0, 0, 0, false, false, false, false, [], [], 4, by rw [hd, h]; rfl, fixed_ten, hn, hz, .inr ⟨.inr (.inr rfl), rfl, rfl, rfl, rfl, rfl, rfl, rfl, rfl, rfl⟩⟩
    · exact ⟨k, s, a, wn, b3, b4, b5, b6, l7, l8, 0, by rw [hd, h1], fixed_ten, hn, hz, .inl ⟨rfl, h2, sameb_eq k l0 (by omega) (by omega)⟩⟩

end Go.Proofs.Ytblkhkipbcpaiaa.Pure
