/- Proved: for every input the law TopSealed answers true: a segment that is sealed folds to 65535, and its sum, updated for another window, is that of the segment with that window. Condition: none. -/
import Derived.Test.YtblkhkipbcpaiaaPTopSealedx4
namespace Go.Proofs.Ytblkhkipbcpaiaa.Pure
open Go.RowKit Go.Proofs.Ytblkhkipbcpaiaa.PTopSealed Go.Proofs.YtblkhkipbcpaiaaW.PrintWords Go.Proofs.YtblkhkipbcpaiaaW.PrintLast
set_option linter.unusedVariables false

theorem wrap64_id {x : Int} (h0 : -9223372036854775808 ≤ x) (h1 : x ≤ 9223372036854775807) : wrap64 x = x := by unfold wrap64; omega

theorem picked_eq (a n : Int) (h0 : 0 < n) (h1 : n ≤ 1000000000000) : packthreadkeep_Picked.f a n = some (a % n) := by
  unfold packthreadkeep_Picked.f
  rw [if_neg (by omega)]
  have hm := Int.tmod_eq_emod (a := a) (b := n)
  have hlo := Int.emod_nonneg a (show n ≠ 0 by omega)
  have hhi := Int.emod_lt_of_pos a h0
  by_cases hc : 0 ≤ a ∨ n ∣ a
  · rw [if_pos hc] at hm
    have e : a.tmod n = a % n := by rw [hm]; simp
    rw [e, if_neg (by omega)]
  · rw [if_neg hc] at hm
    have e : a.tmod n = a % n - n := by rw [hm]; congr 1; omega
    rw [e, if_pos (by omega), wrap64_id (by omega) (by omega)]
    congr 1; omega

def Oct (l : List Int) : Prop := ∀ x ∈ l, 0 ≤ x ∧ x ≤ 255
theorem oct_of {l : List Int} (h : ∀ x ∈ l, (Lit.int .u8 x).wf = true) : Oct l := fun x hx => by
  have := h x hx
  simp [Lit.wf, IntKind.min, IntKind.max, IntKind.signed, IntKind.bits] at this
  omega
theorem Oct.take {l : List Int} (h : Oct l) (n : Nat) : Oct (l.take n) := fun x hx => h x (List.mem_of_mem_take hx)
theorem Oct.append {a b : List Int} (h : Oct a) (g : Oct b) : Oct (a ++ b) := fun x hx => by
  rcases List.mem_append.1 hx with h1 | h1
  · exact h x h1
  · exact g x h1
theorem Oct.set {l : List Int} (h : Oct l) (i : Nat) (v : Int) (h0 : 0 ≤ v) (h1 : v ≤ 255) : Oct (l.set i v) := fun x hx => by
  rcases List.mem_or_eq_of_mem_set hx with h2 | h2
  · exact h x h2
  · subst h2; exact ⟨h0, h1⟩
theorem Oct.getD {l : List Int} (h : Oct l) (i : Nat) : 0 ≤ l.getD i 0 ∧ l.getD i 0 ≤ 255 := by
  by_cases c : i < l.length
  · rw [List.getD_eq_getElem?_getD, List.getElem?_eq_getElem c]; exact h _ (List.getElem_mem c)
  · rw [List.getD_eq_getElem?_getD, List.getElem?_eq_none (by omega)]; simp
theorem octets_eq (l : List Int) (n : Int) (m : Nat) (hm : n = (m : Int)) (hn : m ≤ 1000000) : packthreadkeep_Octets.f l n = some (l.take m) := by
  subst hm
  have e : (mn (l.length : Int) m).toNat = min l.length m := by unfold mn; split <;> omega
  have e0 : 0 ≤ mn (l.length : Int) m := by unfold mn; split <;> omega
  have e1 : mn (l.length : Int) m ≤ l.length := by unfold mn; split <;> omega
  unfold packthreadkeep_Octets.f
  rw [if_pos e0, if_pos e1, e, if_pos (by rw [List.length_take, List.length_nil]; omega), List.nil_append]
  congr 1
  by_cases c : l.length ≤ m
  · rw [Nat.min_eq_left c, List.take_length, List.take_of_length_le c]
  · rw [Nat.min_eq_right (by omega)]

/-- The sum of pairs, from an even place on (true) or from an odd one. -/
def S : Bool → List Int → Int
  | _, [] => 0
  | true, x :: r => 256 * x + S false r
  | false, x :: r => x + S true r
theorem S_t (x : Int) (r : List Int) : S true (x :: r) = 256 * x + S false r := rfl
theorem S_f (x : Int) (r : List Int) : S false (x :: r) = x + S true r := rfl
/-- A number, folded. -/
def F (n : Int) : Int := if n = 0 then 0 else (n - 1) % 65535 + 1
theorem F_range (n : Int) : 0 ≤ F n ∧ F n ≤ 65535 := by unfold F; split <;> omega
theorem F_small {n : Int} (h0 : 0 ≤ n) (h1 : n ≤ 65535) : F n = n := by unfold F; split <;> omega
theorem F_pos {n : Int} (h : n ≠ 0) : F n = (n - 1) % 65535 + 1 := by unfold F; rw [if_neg h]
theorem F_congr {a b : Int} (h : (a - b) % 65535 = 0) (ha : a ≠ 0) (hb : b ≠ 0) : F a = F b := by rw [F_pos ha, F_pos hb]; omega
theorem F_step {n : Int} (h : 65535 < n) : F (n / 65536 + n % 65536) = F n := F_congr (by omega) (by omega) (by omega)
theorem S_range : ∀ (l : List Int) (p : Bool), Oct l → 0 ≤ S p l ∧ S p l ≤ 65280 * (l.length : Int)
  | [], p, _ => by cases p <;> simp [S]
  | x :: r, p, h => by
    have hx := h x (List.mem_cons_self ..)
    have hr : Oct r := fun y hy => h y (List.mem_cons_of_mem _ hy)
    have h1 := S_range r true hr
    have h2 := S_range r false hr
    cases p <;> simp only [S, List.length_cons] <;> omega
/-- What parity follows so many bytes. -/
def par (p : Bool) (n : Nat) : Bool := if n % 2 = 0 then p else !p
theorem par_of (i : Nat) : par true i = decide (i % 2 = 0) := by
  unfold par
  by_cases h : i % 2 = 0
  · rw [if_pos h, decide_eq_true h]
  · rw [if_neg h, decide_eq_false h]; rfl
theorem par_zero (p : Bool) : par p 0 = p := rfl
theorem par_succ (p : Bool) (n : Nat) : par (!p) n = par p (n + 1) := by
  unfold par
  rcases Nat.mod_two_eq_zero_or_one n with h | h
  · rw [if_pos h, if_neg (by omega)]
  · rw [if_neg (by omega), if_pos (by omega), Bool.not_not]
theorem S_append : ∀ (a b : List Int) (p : Bool), S p (a ++ b) = S p a + S (par p a.length) b
  | [], b, p => by cases p <;> simp [S, par_zero]
  | x :: r, b, true => by
    rw [List.cons_append, S_t, S_t, S_append r b false, List.length_cons, ← par_succ]; simp only [Bool.not_true]; omega
  | x :: r, b, false => by
    rw [List.cons_append, S_f, S_f, S_append r b true, List.length_cons, ← par_succ]; simp only [Bool.not_false]; omega
def wt (p : Bool) (i : Nat) : Int := if par p i = true then 256 else 1
theorem wt_succ (p : Bool) (i : Nat) : wt p (i + 1) = wt (!p) i := by unfold wt; rw [par_succ]
theorem S_set (l : List Int) : ∀ (i : Nat) (v : Int) (p : Bool), i < l.length → S p (l.set i v) = S p l + wt p i * (v - l.getD i 0) := by
  induction l with
  | nil => intro i v p h; simp at h
  | cons x r ih =>
    intro i v p h
    cases i with
    | zero =>
      rw [List.set_cons_zero, List.getD_cons_zero]
      cases p
      · have e : wt false 0 = 1 := rfl
        rw [S_f, S_f, e]; omega
      · have e : wt true 0 = 256 := rfl
        rw [S_t, S_t, e]; omega
    | succ i =>
      have h' : i < r.length := by simpa using h
      rw [List.set_cons_succ, List.getD_cons_succ, wt_succ]
      cases p
      · rw [S_f, S_f, ih i v true h', Bool.not_false]
        generalize wt true i * (v - r.getD i 0) = z
        omega
      · rw [S_t, S_t, ih i v false h', Bool.not_true]
        generalize wt false i * (v - r.getD i 0) = z
        omega

theorem and16 {x : Int} (h0 : 0 ≤ x) (h1 : x < 2 ^ 62) : Go.bits .and .i64 x 65535 = x % 65536 :=
  bits_mask .i64 62 (by decide) (fun n h0 h1 => by rw [IntKind.wrap_i64]; omega) 16 (by decide) x h0 h1
theorem or8 {x y : Int} (h0 : 0 ≤ x) (h1 : x ≤ 255) (h2 : 0 ≤ y) (h3 : y ≤ 255) : Go.bits .or .i64 (x * 256) y = x * 256 + y :=
  bits_join .i64 31 (by decide) (fun n h0 h1 => by rw [IntKind.wrap_i64]; omega) 8 (x * 256) y (by omega) (by omega) (by omega) h2 (by omega) (by omega)
theorem fold_base (k : Nat) {n : Int} (h0 : 0 ≤ n) (h1 : n ≤ 65535) : inet_fold.l0 (k + 1) n = some (F n) := by
  rw [inet_fold.l0, if_neg (by omega), F_small h0 h1]
theorem fold_step (k : Nat) {n : Int} (h0 : 65535 < n) (h1 : n ≤ 281474976710656) : inet_fold.l0 (k + 1) n = inet_fold.l0 k (n / 65536 + n % 65536) := by
  rw [inet_fold.l0, if_pos h0, and16 (by omega) (by omega), wrap64_id (by omega) (by omega)]
theorem fold_up {b c : Int} {j : Nat} (hb : ∀ k n, 0 ≤ n → n ≤ b → inet_fold.l0 (k + j) n = some (F n)) (hc : c ≤ 281474976710656)
    (hs : ∀ n : Int, 65535 < n → n ≤ c → n / 65536 + n % 65536 ≤ b) : ∀ k n, 0 ≤ n → n ≤ c → inet_fold.l0 (k + (j + 1)) n = some (F n) := by
  intro k n h0 h1
  by_cases h : n ≤ 65535
  · exact fold_base (k + j) h0 h
  · rw [show k + (j + 1) = (k + j) + 1 by omega, fold_step _ (by omega) (by omega), hb k _ (by omega) (hs n (by omega) h1), F_step (by omega)]
theorem fold_eq (k : Nat) {n : Int} (hk : 4 ≤ k) (h0 : 0 ≤ n) (h1 : n ≤ 140737488355328) : inet_fold.f k n = some (F n) := by
  have a1 := fold_up (b := 65535) (c := 131070) (j := 1) (fun k n h0 h1 => fold_base k h0 h1) (by decide) (fun n _ _ => by omega)
  have a2 := fold_up (c := 4294967295) a1 (by decide) (fun n _ _ => by omega)
  have a3 := fold_up (c := 140737488355328) a2 (by decide) (fun n _ _ => by omega)
  have := a3 (k - 4) n h0 h1
  rw [show k - 4 + (1 + 1 + 1 + 1) = k by omega] at this
  exact this
theorem Fold_loop (xs : List Int) (ho : Oct xs) (hl : xs.length ≤ 1000000) (d : Nat) : ∀ (k i : Nat) (n : Int), i + d = xs.length → d + 5 ≤ k → 0 ≤ n → n ≤ 65280 * (i : Int) →
    inet_Fold.l0 k n xs (xs.length : Int) (i : Int) = some (F (n + S (par true i) (xs.drop i))) := by
  induction d with
  | zero =>
    intro k i n hi hk h0 h1
    obtain ⟨k, rfl⟩ : ∃ m, k = m + 1 := ⟨k - 1, by omega⟩
    rw [inet_Fold.l0, if_neg (by omega), List.drop_of_length_le (by omega), fold_eq k (by omega) h0 (by omega)]
    cases par true i <;> simp [S]
  | succ d ih =>
    intro k i n hi hk h0 h1
    obtain ⟨k, rfl⟩ : ∃ m, k = m + 1 := ⟨k - 1, by omega⟩
    have hx := ho.getD i
    have hr : rd xs (i : Int) = xs.getD i 0 := rfl
    have hd : xs.drop i = xs.getD i 0 :: xs.drop (i + 1) := by
      rw [List.drop_eq_getElem_cons (by omega : i < xs.length), List.getD_eq_getElem?_getD, List.getElem?_eq_getElem (by omega : i < xs.length)]; rfl
    have hp : par true (i + 1) = !(par true i) := by rw [← par_succ]; unfold par; split <;> rfl
    have e1 : ((i : Int) + 1) = ((i + 1 : Nat) : Int) := by omega
    rw [inet_Fold.l0, if_pos (by omega), if_pos (by omega), if_pos (by omega), hr, hd, wrap64_id (x := xs.getD i 0) (by omega) (by omega), wrap64_id (x := (i : Int) + 1) (by omega) (by omega), e1, Int.tmod_eq_emod_of_nonneg (by omega)]
    by_cases c : (i : Int) % 2 = 0
    · have hq : par true i = true := by rw [par_of]; exact decide_eq_true (by omega)
      rw [if_pos c, wrap64_id (x := xs.getD i 0 * 256) (by omega) (by omega), wrap64_id (by omega) (by omega), ih k (i + 1) _ (by omega) (by omega) (by omega) (by omega), hp, hq, S]
      simp only [Bool.not_true]
      congr 2; omega
    · have hq : par true i = false := by rw [par_of]; exact decide_eq_false (by omega)
      rw [if_neg c, wrap64_id (by omega) (by omega), ih k (i + 1) _ (by omega) (by omega) (by omega) (by omega), hp, hq, S]
      simp only [Bool.not_false]
      congr 2; omega
theorem Fold_eq (k : Nat) (xs : List Int) (ho : Oct xs) (hl : xs.length ≤ 1000000) (hk : xs.length + 5 ≤ k) : inet_Fold.f k xs = some (F (S true xs)) := by
  unfold inet_Fold.f
  have := Fold_loop xs ho hl xs.length k 0 0 (by omega) hk (by omega) (by omega)
  rw [par_zero, List.drop_zero, Int.zero_add] at this
  exact this

theorem Sum_eq (k : Nat) (xs : List Int) (ho : Oct xs) (hl : xs.length ≤ 1000000) (hk : xs.length + 5 ≤ k) : inet_Sum.f k xs = some (65535 - F (S true xs)) := by
  have := F_range (S true xs)
  unfold inet_Sum.f
  rw [Fold_eq k xs ho hl hk]
  simp only [Option.bind_some]
  rw [wrap64_id (by omega) (by omega)]

theorem bad3 (k : Nat) (a b c : Int) (h0 : 0 ≤ a) (h1 : a ≤ 65535) (h2 : 0 ≤ b) (h3 : b ≤ 65535) (h4 : 0 ≤ c) (h5 : c ≤ 65535) : inet_bad.f (k + 4) [a, b, c] = some false := by
  have e : rd [a, b, c] 0 = a := rfl
  have e1 : rd [a, b, c] 1 = b := rfl
  have e2 : rd [a, b, c] 2 = c := rfl
  have w : wrap64 (0 + 1) = 1 := wrap64_id (x := 0 + 1) (by decide) (by decide)
  have w1 : wrap64 (1 + 1) = 2 := wrap64_id (x := 1 + 1) (by decide) (by decide)
  have w2 : wrap64 (2 + 1) = 3 := wrap64_id (x := 2 + 1) (by decide) (by decide)
  unfold inet_bad.f
  show inet_bad.l0 (k + 4) [a, b, c] 3 0 = some false
  rw [inet_bad.l0, if_pos (by decide), if_pos (by decide), if_pos (by simp), e, if_neg (by omega), if_neg (by omega), w]
  rw [inet_bad.l0, if_pos (by decide), if_pos (by decide), if_pos (by simp), e1, if_neg (by omega), if_neg (by omega), w1]
  rw [inet_bad.l0, if_pos (by decide), if_pos (by decide), if_pos (by simp), e2, if_neg (by omega), if_neg (by omega), w2]
  rw [inet_bad.l0, if_neg (by decide)]
theorem update_eq (k : Nat) (a b c : Int) (hk : 8 ≤ k) (h0 : 0 ≤ a) (h1 : a ≤ 65535) (h2 : 0 ≤ b) (h3 : b ≤ 65535) (h4 : 0 ≤ c) (h5 : c ≤ 65535) :
    inet_Update.f k a b c = some (65535 - F (65535 - a + 65535 - b + c), 0) := by
  obtain ⟨k, rfl⟩ : ∃ m, k = m + 4 := ⟨k - 4, by omega⟩
  have := F_range (65535 - a + 65535 - b + c)
  unfold inet_Update.f
  rw [bad3 k a b c h0 h1 h2 h3 h4 h5]
  simp only [Option.bind_some]
  rw [if_neg (by decide), wrap64_id (x := 65535 - a) (by omega) (by omega), wrap64_id (x := 65535 - a + 65535) (by omega) (by omega), wrap64_id (x := 65535 - a + 65535 - b) (by omega) (by omega), wrap64_id (x := 65535 - a + 65535 - b + c) (by omega) (by omega), fold_eq _ (by omega) (by omega) (by omega)]
  simp only [Option.bind_some]
  rw [wrap64_id (by omega) (by omega)]

theorem sameb_l0 (l : List Int) (hL : l.length ≤ 100000) : ∀ (m i k : Nat), i + m = l.length → m < k → packthreadtop_sameBytes.l0 k l l (i : Int) = some true := by
  intro m
  induction m with
  | zero =>
    intro i k hi hk
    obtain ⟨k, rfl⟩ : ∃ q, k = q + 1 := ⟨k - 1, by omega⟩
    rw [packthreadtop_sameBytes.l0, if_neg (by omega)]
  | succ m ih =>
    intro i k hi hk
    obtain ⟨k, rfl⟩ : ∃ q, k = q + 1 := ⟨k - 1, by omega⟩
    have hw1 : wrap64 ((i : Int) + 1) = ((i + 1 : Nat) : Int) := by rw [wrap64_id (by omega) (by omega)]; omega
    rw [packthreadtop_sameBytes.l0, if_pos (by omega), if_pos (by omega), if_pos (by omega), if_pos rfl, hw1]
    exact ih (i + 1) k (by omega) (by omega)
theorem sameb_eq (k : Nat) (l : List Int) (hL : l.length ≤ 100000) (hk : l.length < k) : packthreadtop_sameBytes.f k l l = some true := by
  unfold packthreadtop_sameBytes.f
  rw [if_pos rfl]
  exact sameb_l0 l hL l.length 0 k (by omega) (by omega)

theorem octB_of {l : List Int} (h : Oct l) : octB l = true := by
  unfold octB
  rw [List.all_eq_true]
  intro x hx
  exact decide_eq_true (h x hx)
theorem rd_nat (l : List Int) (n : Nat) : rd l (n : Int) = l.getD n 0 := by unfold rd; rw [Int.toNat_natCast]
theorem wd_at {l : List Int} (h : Oct l) (n : Nat) : wd l n = l.getD n 0 * 256 + l.getD (n + 1) 0 := by
  have h0 := h.getD n
  have h1 := h.getD (n + 1)
  unfold wd
  rw [show ((n : Int) + 1) = ((n + 1 : Nat) : Int) by omega, rd_nat, rd_nat]
  exact or8 (by omega) (by omega) (by omega) (by omega)
/-- ten bytes and a rest -/
def H10 (x0 x1 x2 x3 x4 x5 x6 x7 x8 x9 : Int) (t : List Int) : List Int := x0 :: x1 :: x2 :: x3 :: x4 :: x5 :: x6 :: x7 :: x8 :: x9 :: t
theorem encL_eq (s a wn : Int) (b3 b4 b5 b6 : Bool) (l7 : List S52) (l8 : List Int) : encL s a wn b3 b4 b5 b6 l7 l8 = H10 (s / 256 % 256) (s % 256) (a / 256 % 256) (a % 256) (wn / 256 % 256) (wn % 256) (flgF b3 b4 b5 b6 4) (l7.length : Int) 0 0 (encS l7 ++ l8) := by
  unfold encL H10 tw
  simp
theorem seal_H (x0 x1 x2 x3 x4 x5 x6 x7 x8 x9 : Int) (t : List Int) (sm : Int) : sealF (H10 x0 x1 x2 x3 x4 x5 x6 x7 x8 x9 t) sm = H10 x0 x1 x2 x3 x4 x5 x6 x7 (sm / 256 % 256) (sm % 256) t := rfl
theorem blank_H (x0 x1 x2 x3 x4 x5 x6 x7 x8 x9 : Int) (t : List Int) : blankF (H10 x0 x1 x2 x3 x4 x5 x6 x7 x8 x9 t) = H10 x0 x1 x2 x3 x4 x5 x6 x7 0 0 t := rfl
theorem flg_rng (b3 b4 b5 b6 : Bool) : 0 ≤ flgF b3 b4 b5 b6 4 ∧ flgF b3 b4 b5 b6 4 < 16 := by cases b3 <;> cases b4 <;> cases b5 <;> cases b6 <;> decide
theorem flg_0 (b3 b4 b5 b6 : Bool) : (Go.bits .and .u8 (flgF b3 b4 b5 b6 4) 1 == 1) = b3 := by cases b3 <;> cases b4 <;> cases b5 <;> cases b6 <;> decide
theorem flg_1 (b3 b4 b5 b6 : Bool) : (Go.bits .and .u8 (flgF b3 b4 b5 b6 4 / 2) 1 == 1) = b4 := by cases b3 <;> cases b4 <;> cases b5 <;> cases b6 <;> decide
theorem flg_2 (b3 b4 b5 b6 : Bool) : (Go.bits .and .u8 (flgF b3 b4 b5 b6 4 / 4) 1 == 1) = b5 := by cases b3 <;> cases b4 <;> cases b5 <;> cases b6 <;> decide
theorem flg_3 (b3 b4 b5 b6 : Bool) : (Go.bits .and .u8 (flgF b3 b4 b5 b6 4 / 8) 1 == 1) = b6 := by cases b3 <;> cases b4 <;> cases b5 <;> cases b6 <;> decide
/-- ranges out of bytes -/
def gS : List Int → Nat → List S52
  | _, 0 => []
  | p :: q :: r :: u :: t, n + 1 => ⟨p * 256 + q, r * 256 + u⟩ :: gS t n
  | _, _ => []
theorem encS_cons (r : S52) (l : List S52) : encS (r :: l) = (r.f0 / 256 % 256) :: (r.f0 % 256) :: (r.f1 / 256 % 256) :: (r.f1 % 256) :: encS l := by simp [encS, tw]
theorem gS_enc (r : List Int) : ∀ (l : List S52), serB l = true → gS (encS l ++ r) l.length = l
  | [], _ => by cases r <;> rfl
  | x :: l, h => by
    have hx : decide (0 ≤ x.f0 ∧ x.f0 < 65536 ∧ 0 ≤ x.f1 ∧ x.f1 < 65536) = true := by
      unfold serB at h; rw [List.all_eq_true] at h; exact h x (List.mem_cons_self ..)
    have hx2 := of_decide_eq_true hx
    have hl : serB l = true := by
      unfold serB at h ⊢; rw [List.all_eq_true] at h ⊢; exact fun y hy => h y (List.mem_cons_of_mem _ hy)
    rw [encS_cons, List.length_cons]
    show ⟨x.f0 / 256 % 256 * 256 + x.f0 % 256, x.f1 / 256 % 256 * 256 + x.f1 % 256⟩ :: gS (encS l ++ r) l.length = x :: l
    rw [gS_enc r l hl, show x.f0 / 256 % 256 * 256 + x.f0 % 256 = x.f0 by omega, show x.f1 / 256 % 256 * 256 + x.f1 % 256 = x.f1 by omega]
theorem gS_map : ∀ (n : Nat) (t : List Int), 4 * n ≤ t.length → (List.range n).map (fun j => (⟨t.getD (4 * j) 0 * 256 + t.getD (4 * j + 1) 0, t.getD (4 * j + 2) 0 * 256 + t.getD (4 * j + 3) 0⟩ : S52)) = gS t n
  | 0, t, _ => by cases t <;> rfl
  | n + 1, t, h => by
    match t, h with
    | p :: q :: r :: u :: t, h =>
      rw [List.range_succ_eq_map, List.map_cons, List.map_map]
      have h2 : 4 * n ≤ t.length := by simp only [List.length_cons] at h; omega
      rw [show gS (p :: q :: r :: u :: t) (n + 1) = ⟨p * 256 + q, r * 256 + u⟩ :: gS t n from rfl, ← gS_map n t h2]
      rfl
    | [], h => simp at h
    | [_], h => simp only [List.length_cons, List.length_nil] at h; omega
    | [_, _], h => simp only [List.length_cons, List.length_nil] at h; omega
    | [_, _, _], h => simp only [List.length_cons, List.length_nil] at h; omega
theorem dS_H (x0 x1 x2 x3 x4 x5 x6 x7 x8 x9 : Int) (t : List Int) (ho : Oct (H10 x0 x1 x2 x3 x4 x5 x6 x7 x8 x9 t)) (n : Nat) (hn : 4 * n ≤ t.length) : dS (H10 x0 x1 x2 x3 x4 x5 x6 x7 x8 x9 t) n = gS t n := by
  rw [← gS_map n t hn]
  unfold dS
  apply List.map_congr_left
  intro j hj
  rw [wd_at ho, wd_at ho]
  have e : ∀ m, (H10 x0 x1 x2 x3 x4 x5 x6 x7 x8 x9 t).getD (10 + m) 0 = t.getD m 0 := fun m => by
    rw [show 10 + m = m + 10 by omega]; rfl
  rw [show 10 + 4 * j + 1 = 10 + (4 * j + 1) by omega, show 10 + 4 * j + 2 = 10 + (4 * j + 2) by omega, show 10 + (4 * j + 2) + 1 = 10 + (4 * j + 3) by omega, e, e, e, e]
theorem encS_length : ∀ (l : List S52), (encS l).length = 4 * l.length
  | [] => rfl
  | r :: l => by rw [encS_cons]; simp only [List.length_cons]; rw [encS_length l]; omega
theorem encS_oct : ∀ (l : List S52), Oct (encS l)
  | [] => fun x hx => by cases hx
  | r :: l => by
    rw [encS_cons]
    intro x hx
    simp only [List.mem_cons] at hx
    rcases hx with h | h | h | h | h
    · omega
    · omega
    · omega
    · omega
    · exact encS_oct l x h
theorem H10_oct {x0 x1 x2 x3 x4 x5 x6 x7 x8 x9 : Int} {t : List Int} (h0 : 0 ≤ x0 ∧ x0 ≤ 255) (h1 : 0 ≤ x1 ∧ x1 ≤ 255) (h2 : 0 ≤ x2 ∧ x2 ≤ 255) (h3 : 0 ≤ x3 ∧ x3 ≤ 255) (h4 : 0 ≤ x4 ∧ x4 ≤ 255) (h5 : 0 ≤ x5 ∧ x5 ≤ 255) (h6 : 0 ≤ x6 ∧ x6 ≤ 255) (h7 : 0 ≤ x7 ∧ x7 ≤ 255) (h8 : 0 ≤ x8 ∧ x8 ≤ 255) (h9 : 0 ≤ x9 ∧ x9 ≤ 255) (ht : Oct t) : Oct (H10 x0 x1 x2 x3 x4 x5 x6 x7 x8 x9 t) := by
  intro x hx
  unfold H10 at hx
  simp only [List.mem_cons] at hx
  rcases hx with rfl | rfl | rfl | rfl | rfl | rfl | rfl | rfl | rfl | rfl | h
  · exact h0
  · exact h1
  · exact h2
  · exact h3
  · exact h4
  · exact h5
  · exact h6
  · exact h7
  · exact h8
  · exact h9
  · exact ht x h
theorem H10_len (x0 x1 x2 x3 x4 x5 x6 x7 x8 x9 : Int) (t : List Int) : (H10 x0 x1 x2 x3 x4 x5 x6 x7 x8 x9 t).length = t.length + 10 := rfl
/-- the fields of a segment that is sent -/
def OkS (s a wn : Int) (b6 : Bool) (l7 : List S52) (l8 : List Int) : Prop := (0 ≤ s ∧ s < 65536) ∧ (0 ≤ a ∧ a < 65536) ∧ (0 ≤ wn ∧ wn ≤ 65535) ∧ serB l7 = true ∧ l7.length ≤ 3 ∧ l8.length ≤ 64 ∧ faultF a wn b6 l7.length l8.length = 0
theorem encL_oct {s a wn : Int} {b3 b4 b5 b6 : Bool} {l7 : List S52} {l8 : List Int} (ho : Oct l8) (h : OkS s a wn b6 l7 l8) (sm : Int) : Oct (sealF (encL s a wn b3 b4 b5 b6 l7 l8) sm) := by
  have hf := flg_rng b3 b4 b5 b6
  obtain ⟨_, _, _, _, h3, _, _⟩ := h
  rw [encL_eq, seal_H]
  exact H10_oct (by omega) (by omega) (by omega) (by omega) (by omega) (by omega) (by omega) (by omega) (by omega) (by omega) ((encS_oct l7).append ho)
theorem encL_oct0 {s a wn : Int} {b3 b4 b5 b6 : Bool} {l7 : List S52} {l8 : List Int} (ho : Oct l8) (h : OkS s a wn b6 l7 l8) : Oct (encL s a wn b3 b4 b5 b6 l7 l8) := by
  have hf := flg_rng b3 b4 b5 b6
  obtain ⟨_, _, _, _, h3, _, _⟩ := h
  rw [encL_eq]
  exact H10_oct (by omega) (by omega) (by omega) (by omega) (by omega) (by omega) (by omega) (by omega) (by omega) (by omega) ((encS_oct l7).append ho)
theorem encL_len (s a wn : Int) (b3 b4 b5 b6 : Bool) (l7 : List S52) (l8 : List Int) : (encL s a wn b3 b4 b5 b6 l7 l8).length = 10 + 4 * l7.length + l8.length := by
  rw [encL_eq, H10_len, List.length_append, encS_length]; omega
theorem seal_len (e : List Int) (sm : Int) : (sealF e sm).length = e.length := by unfold sealF; rw [List.length_set, List.length_set]
def smF (e : List Int) : Int := 65535 - F (S true e)
theorem sm_rng (e : List Int) : 0 ≤ smF e ∧ smF e ≤ 65535 := by have := F_range (S true e); unfold smF; omega
theorem enc_is {s a wn : Int} {b3 b4 b5 b6 : Bool} {l7 : List S52} {l8 : List Int} (ho : Oct l8) (h : OkS s a wn b6 l7 l8) : seg_Encode.f s a wn b3 b4 b5 b6 l7 l8 = some (sealF (encL s a wn b3 b4 b5 b6 l7 l8) (smF (encL s a wn b3 b4 b5 b6 l7 l8)), 0) := by
  have hl := encL_len s a wn b3 b4 b5 b6 l7 l8
  have hb : l7.length ≤ 3 ∧ l8.length ≤ 64 := ⟨h.2.2.2.2.1, h.2.2.2.2.2.1⟩
  unfold OkS at h
  unfold seg_Encode.f
  rw [if_pos h, Sum_eq 1000 _ (encL_oct0 ho h) (by omega) (by omega), Option.bind_some]
  rfl
/-- what is read of ten bytes and a rest -/
theorem dec_H {x0 x1 x2 x3 x4 x5 x6 x7 x8 x9 : Int} {t : List Int} (ho : Oct (H10 x0 x1 x2 x3 x4 x5 x6 x7 x8 x9 t)) (hl : t.length ≤ 1000) :
    seg_Decode.f (H10 x0 x1 x2 x3 x4 x5 x6 x7 x8 x9 t) = some (decF (smF (H10 x0 x1 x2 x3 x4 x5 x6 x7 0 0 t)) (H10 x0 x1 x2 x3 x4 x5 x6 x7 x8 x9 t)) := by
  have hlen := H10_len x0 x1 x2 x3 x4 x5 x6 x7 x8 x9 t
  have hob : Oct (H10 x0 x1 x2 x3 x4 x5 x6 x7 0 0 t) := by
    have := (ho.set 8 0 (by decide) (by decide)).set 9 0 (by decide) (by decide)
    exact this
  unfold seg_Decode.f
  rw [if_neg (by omega), if_pos ⟨by omega, octB_of ho⟩, blank_H, Sum_eq _ _ hob (by rw [H10_len]; omega) (by rw [hlen, H10_len]; omega), Option.bind_some]
  rfl
theorem w8_H {x0 x1 x2 x3 x4 x5 x6 x7 x8 x9 : Int} {t : List Int} (ho : Oct (H10 x0 x1 x2 x3 x4 x5 x6 x7 x8 x9 t)) : wd (H10 x0 x1 x2 x3 x4 x5 x6 x7 x8 x9 t) 8 = x8 * 256 + x9 := wd_at ho 8
/-- A SEGMENT COMES BACK. -/
theorem dec_enc {s a wn : Int} {b3 b4 b5 b6 : Bool} {l7 : List S52} {l8 : List Int} (ho : Oct l8) (h : OkS s a wn b6 l7 l8) :
    seg_Decode.f (sealF (encL s a wn b3 b4 b5 b6 l7 l8) (smF (encL s a wn b3 b4 b5 b6 l7 l8))) = some (s, a, wn, b3, b4, b5, b6, l7, l8, 0) := by
  have hO := encL_oct (b3 := b3) (b4 := b4) (b5 := b5) ho h (smF (encL s a wn b3 b4 b5 b6 l7 l8))
  have hr := sm_rng (encL s a wn b3 b4 b5 b6 l7 l8)
  obtain ⟨hs, ha, hw, hg, h3, h64, hf⟩ := h
  have hfl := flg_rng b3 b4 b5 b6
  have hE := encL_eq s a wn b3 b4 b5 b6 l7 l8
  generalize hsm : smF (encL s a wn b3 b4 b5 b6 l7 l8) = sm at *
  rw [hE, seal_H] at hO ⊢
  rw [dec_H hO (by rw [List.length_append, encS_length]; omega), ← hE, hsm]
  have w0 : wd _ 0 = _ := wd_at hO 0
  have w2 : wd _ 2 = _ := wd_at hO 2
  have w4 : wd _ 4 = _ := wd_at hO 4
  have w8 := w8_H hO
  have hd := dS_H _ _ _ _ _ _ _ _ _ _ _ hO l7.length (by rw [List.length_append, encS_length]; omega)
  rw [gS_enc l8 l7 hg] at hd
  generalize hX : H10 (s / 256 % 256) (s % 256) (a / 256 % 256) (a % 256) (wn / 256 % 256) (wn % 256) (flgF b3 b4 b5 b6 4) (l7.length : Int) (sm / 256 % 256) (sm % 256) (encS l7 ++ l8) = X at *
  have r6 : rd X 6 = flgF b3 b4 b5 b6 4 := by rw [← hX]; rfl
  have r7 : rd X 7 = (l7.length : Int) := by rw [← hX]; rfl
  have v0 : wd X 0 = s := by rw [w0, ← hX]; show s / 256 % 256 * 256 + s % 256 = s; omega
  have v2 : wd X 2 = a := by rw [w2, ← hX]; show a / 256 % 256 * 256 + a % 256 = a; omega
  have v4 : wd X 4 = wn := by rw [w4, ← hX]; show wn / 256 % 256 * 256 + wn % 256 = wn; omega
  have hlen : X.length = 10 + 4 * l7.length + l8.length := by rw [← hX, H10_len, List.length_append, encS_length]; omega
  have hdr : X.drop (10 + 4 * l7.length) = l8 := by
    rw [← hX]
    show (H10 _ _ _ _ _ _ _ _ _ _ (encS l7 ++ l8)).drop (10 + 4 * l7.length) = l8
    rw [show 10 + 4 * l7.length = 4 * l7.length + 10 by omega]
    show (encS l7 ++ l8).drop (4 * l7.length) = l8
    rw [← encS_length l7, List.drop_left]
  have t0 : PTopSealed.bt X 0 = b3 := by unfold PTopSealed.bt; rw [r6]; exact flg_0 b3 b4 b5 b6
  have t1 : PTopSealed.bt X 1 = b4 := by unfold PTopSealed.bt; rw [r6]; exact flg_1 b3 b4 b5 b6
  have t2 : PTopSealed.bt X 2 = b5 := by unfold PTopSealed.bt; rw [r6]; exact flg_2 b3 b4 b5 b6
  have t3 : PTopSealed.bt X 3 = b6 := by unfold PTopSealed.bt; rw [r6]; exact flg_3 b3 b4 b5 b6
  unfold decF
  rw [if_neg (by rw [w8]; omega), r6, r7, Int.toNat_natCast, if_neg (by omega), v2, v4, t3, hlen, show 10 + 4 * l7.length + l8.length - (10 + 4 * l7.length) = l8.length by omega, hf, if_neg (by decide), v0, t0, t1, t2, hd, hdr]

theorem top_seg (a0 a1 a2 : Int) (l : List Int) : packthreadkeep_Seg.f a0 a1 a2 8 [] l = some (a0 % 65536, a1 % 65536, a2 % 65536, false, false, false, true, [], l.take 64) := by
  unfold packthreadkeep_Seg.f
  rw [if_pos (show fb 8 8 = true by decide), show fb 8 1 = false by decide, show fb 8 2 = false by decide, show fb 8 4 = false by decide]
  rfl
theorem top_ok (s a wn : Int) (l8 : List Int) (hs : 0 ≤ s ∧ s < 65536) (ha : 0 ≤ a ∧ a < 65536) (hw : 0 ≤ wn ∧ wn ≤ 65535) (h : l8.length ≤ 64) : OkS s a wn true [] l8 := by
  refine ⟨hs, ha, hw, rfl, by simp, h, ?_⟩
  unfold faultF
  rw [if_neg (by simp; omega), if_neg (by simp)]
theorem top_enc (s a wn : Int) (l8 : List Int) : encL s a wn false false false true [] l8 = H10 (s / 256 % 256) (s % 256) (a / 256 % 256) (a % 256) (wn / 256 % 256) (wn % 256) 8 0 0 0 l8 := by
  rw [encL_eq, show flgF false false false true 4 = 8 by decide]
  rfl
theorem top_S (x0 x1 x2 x3 x4 x5 x6 x7 x8 x9 : Int) (t : List Int) : S true (H10 x0 x1 x2 x3 x4 x5 x6 x7 x8 x9 t) = 256 * x0 + x1 + 256 * x2 + x3 + 256 * x4 + x5 + 256 * x6 + x7 + 256 * x8 + x9 + S true t := by
  unfold H10
  simp only [S_t, S_f]
  omega
theorem word_eq (x : Int) (h : 0 ≤ x ∧ x < 65536) : 256 * (x / 256 % 256) + x % 256 = x := by omega
theorem top_S2 (s a wn sm : Int) (t : List Int) (hs : 0 ≤ s ∧ s < 65536) (ha : 0 ≤ a ∧ a < 65536) (hw : 0 ≤ wn ∧ wn < 65536) (hm : 0 ≤ sm ∧ sm < 65536) : S true (H10 (s / 256 % 256) (s % 256) (a / 256 % 256) (a % 256) (wn / 256 % 256) (wn % 256) 8 0 (sm / 256 % 256) (sm % 256) t) = s + a + wn + 2048 + sm + S true t := by
  rw [top_S]
  have e1 := word_eq s hs
  have e2 := word_eq a ha
  have e3 := word_eq wn hw
  have e4 := word_eq sm hm
  generalize s / 256 % 256 = p1 at *
  generalize s % 256 = p2 at *
  generalize a / 256 % 256 = p3 at *
  generalize a % 256 = p4 at *
  generalize wn / 256 % 256 = p5 at *
  generalize wn % 256 = p6 at *
  generalize sm / 256 % 256 = p7 at *
  generalize sm % 256 = p8 at *
  omega
theorem top_set (x0 x1 x2 x3 x4 x5 x6 x7 x8 x9 : Int) (t : List Int) (y4 y5 y8 y9 : Int) : (((((H10 x0 x1 x2 x3 x4 x5 x6 x7 x8 x9 t).set 4 y4).set 5 y5).set 8 y8).set 9 y9) = H10 x0 x1 x2 x3 y4 y5 x6 x7 y8 y9 t := rfl
theorem TopSealed : packthreadtop_TopSealed.Pure := by
  intro a0 a1 a2 l3 a4 h3
  have ho := (oct_of h3).take 64
  have h64 : (l3.take 64).length ≤ 64 := by rw [List.length_take]; omega
  obtain ⟨k, hk⟩ : ∃ k, 2000 ≤ k := ⟨2000, Nat.le_refl _⟩
  have hSeg := top_seg a0 a1 a2 l3
  have bs : 0 ≤ a0 % 65536 ∧ a0 % 65536 < 65536 := by omega
  have ba : 0 ≤ a1 % 65536 ∧ a1 % 65536 < 65536 := by omega
  have bw : 0 ≤ a2 % 65536 ∧ a2 % 65536 ≤ 65535 := by omega
  have bv : 0 ≤ a4 % 65536 ∧ a4 % 65536 ≤ 65535 := by omega
  have hpk : packthreadkeep_Picked.f a4 65536 = some (a4 % 65536) := picked_eq a4 65536 (by omega) (by omega)
  generalize a0 % 65536 = s at *
  generalize a1 % 65536 = a at *
  generalize a2 % 65536 = wn at *
  generalize a4 % 65536 = v at *
  generalize l3.take 64 = l8 at *
  have hS0 := S_range l8 true ho
  have hE := top_enc s a wn l8
  have hE2 := top_enc s a v l8
  have hok := top_ok s a wn l8 bs ba bw h64
  have hok2 := top_ok s a v l8 bs ba bv h64
  have hEnc := enc_is (b3 := false) (b4 := false) (b5 := false) ho hok
  have hsmE : smF (encL s a wn false false false true [] l8) = 65535 - F (S true (encL s a wn false false false true [] l8)) := rfl
  have hsmE2 : smF (encL s a v false false false true [] l8) = 65535 - F (S true (encL s a v false false false true [] l8)) := rfl
  have hT : S true (encL s a wn false false false true [] l8) = s + a + wn + 2048 + S true l8 := by rw [hE, top_S]; omega
  have hT2 : S true (encL s a v false false false true [] l8) = s + a + v + 2048 + S true l8 := by rw [hE2, top_S]; omega
  have hd := dec_enc (b3 := false) (b4 := false) (b5 := false) ho hok2
  have hX := encL_oct (b3 := false) (b4 := false) (b5 := false) ho hok (smF (encL s a wn false false false true [] l8))
  rw [hT] at hsmE
  rw [hT2] at hsmE2
  have hr := sm_rng (encL s a wn false false false true [] l8)
  have hr2 := sm_rng (encL s a v false false false true [] l8)
  generalize smF (encL s a wn false false false true [] l8) = sm at *
  generalize smF (encL s a v false false false true [] l8) = sm2 at *
  rw [hE, seal_H] at hX hEnc
  rw [hE2, seal_H] at hd
  have hlen := H10_len (s / 256 % 256) (s % 256) (a / 256 % 256) (a % 256) (wn / 256 % 256) (wn % 256) 8 0 (sm / 256 % 256) (sm % 256) l8
  have hp : F (s + a + wn + 2048 + S true l8) = (s + a + wn + 2048 + S true l8 - 1) % 65535 + 1 := F_pos (by omega)
  have hp2 : F (s + a + v + 2048 + S true l8) = (s + a + v + 2048 + S true l8 - 1) % 65535 + 1 := F_pos (by omega)
  have hF : S true (H10 (s / 256 % 256) (s % 256) (a / 256 % 256) (a % 256) (wn / 256 % 256) (wn % 256) 8 0 (sm / 256 % 256) (sm % 256) l8) = s + a + wn + 2048 + sm + S true l8 := top_S2 s a wn sm l8 bs ba (by omega) (by omega)
  have hfold : F (s + a + wn + 2048 + sm + S true l8) = 65535 := by rw [F_pos (by omega)]; omega
  have hu : 65535 - F (65535 - sm + 65535 - wn + v) = sm2 := by
    rw [F_pos (show 65535 - sm + 65535 - wn + v ≠ 0 by omega)]
    omega
  have hup := update_eq k sm wn v (by omega) hr.1 hr.2 bw.1 bw.2 bv.1 bv.2
  rw [hu] at hup
  have r8 : rd (H10 (s / 256 % 256) (s % 256) (a / 256 % 256) (a % 256) (wn / 256 % 256) (wn % 256) 8 0 (sm / 256 % 256) (sm % 256) l8) 8 = sm / 256 % 256 := rfl
  have r9 : rd (H10 (s / 256 % 256) (s % 256) (a / 256 % 256) (a % 256) (wn / 256 % 256) (wn % 256) 8 0 (sm / 256 % 256) (sm % 256) l8) 9 = sm % 256 := rfl
  have hset := top_set (s / 256 % 256) (s % 256) (a / 256 % 256) (a % 256) (wn / 256 % 256) (wn % 256) 8 0 (sm / 256 % 256) (sm % 256) l8 (v / 256 % 256) (v % 256) (sm2 / 256 % 256) (sm2 % 256)
  have hfo : inet_Fold.f k (H10 (s / 256 % 256) (s % 256) (a / 256 % 256) (a % 256) (wn / 256 % 256) (wn % 256) 8 0 (sm / 256 % 256) (sm % 256) l8) = some 65535 := by
    rw [Fold_eq k _ hX (by omega) (by omega), hF, hfold]
  generalize H10 (s / 256 % 256) (s % 256) (a / 256 % 256) (a % 256) (wn / 256 % 256) (wn % 256) 8 0 (sm / 256 % 256) (sm % 256) l8 = X at *
  refine ⟨k, s, a, wn, false, false, false, true, [], l8, X, sm, v, sm2, false, false, false, true, [], hSeg, hEnc, by omega, fun _ => hfo, hpk, bv, by rw [r8]; omega, by rw [r9]; omega, ?_, hup, hr2, by rw [hset]; exact hd, sameb_eq k l8 (by omega) (by omega)⟩
  rw [r8, r9, or8 (by omega) (by omega) (by omega) (by omega)]
  omega

end Go.Proofs.Ytblkhkipbcpaiaa.Pure
