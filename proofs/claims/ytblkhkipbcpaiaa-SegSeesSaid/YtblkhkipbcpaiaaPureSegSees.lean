/- Proved: for every input the law SegSees answers true: a byte of a segment that is changed is seen by its sum, wherever it stands. Condition: none. -/
import Derived.Test.YtblkhkipbcpaiaaPSegSeesx5
namespace Go.Proofs.Ytblkhkipbcpaiaa.Pure
open Go.RowKit Go.Proofs.Ytblkhkipbcpaiaa.PSegSees Go.Proofs.YtblkhkipbcpaiaaW.PrintWords Go.Proofs.YtblkhkipbcpaiaaW.PrintLast
set_option linter.unusedVariables false

theorem wrap64_id {x : Int} (h0 : -9223372036854775808 ≤ x) (h1 : x ≤ 9223372036854775807) : wrap64 x = x := by unfold wrap64; omega

theorem picked_eq (a n : Int) (h0 : 0 < n) (h1 : n ≤ 1000000000000) : packthreadkeep_Picked.f a n = some (a % n) := by
  unfold packthreadkeep_Picked.f
  rw [if_neg (by omega)]
  have hm := Int.tmod_eq_emod (a := a) (b := n)
  have hlo := Int.emod_nonneg a (show n ≠ 0 by omega)
  have hhi := Int.emod_lt_of_pos a h0
  by_cases hc : 0 ≤ a ∨ n ∣ a
  · rw [if_pos hc] at hm
    have e : a.tmod n = a % n := by rw [hm]; simp
    rw [e, if_neg (by omega)]
  · rw [if_neg hc] at hm
    have e : a.tmod n = a % n - n := by rw [hm]; congr 1; omega
    rw [e, if_pos (by omega), wrap64_id (by omega) (by omega)]
    congr 1; omega

def Oct (l : List Int) : Prop := ∀ x ∈ l, 0 ≤ x ∧ x ≤ 255
theorem oct_of {l : List Int} (h : ∀ x ∈ l, (Lit.int .u8 x).wf = true) : Oct l := fun x hx => by
  have := h x hx
  simp [Lit.wf, IntKind.min, IntKind.max, IntKind.signed, IntKind.bits] at this
  omega
theorem Oct.take {l : List Int} (h : Oct l) (n : Nat) : Oct (l.take n) := fun x hx => h x (List.mem_of_mem_take hx)
theorem Oct.append {a b : List Int} (h : Oct a) (g : Oct b) : Oct (a ++ b) := fun x hx => by
  rcases List.mem_append.1 hx with h1 | h1
  · exact h x h1
  · exact g x h1
theorem Oct.set {l : List Int} (h : Oct l) (i : Nat) (v : Int) (h0 : 0 ≤ v) (h1 : v ≤ 255) : Oct (l.set i v) := fun x hx => by
  rcases List.mem_or_eq_of_mem_set hx with h2 | h2
  · exact h x h2
  · subst h2; exact ⟨h0, h1⟩
theorem Oct.getD {l : List Int} (h : Oct l) (i : Nat) : 0 ≤ l.getD i 0 ∧ l.getD i 0 ≤ 255 := by
  by_cases c : i < l.length
  · rw [List.getD_eq_getElem?_getD, List.getElem?_eq_getElem c]; exact h _ (List.getElem_mem c)
  · rw [List.getD_eq_getElem?_getD, List.getElem?_eq_none (by omega)]; simp
theorem octets_eq (l : List Int) (n : Int) (m : Nat) (hm : n = (m : Int)) (hn : m ≤ 1000000) : packthreadkeep_Octets.f l n = some (l.take m) := by
  subst hm
  have e : (mn (l.length : Int) m).toNat = min l.length m := by unfold mn; split <;> omega
  have e0 : 0 ≤ mn (l.length : Int) m := by unfold mn; split <;> omega
  have e1 : mn (l.length : Int) m ≤ l.length := by unfold mn; split <;> omega
  unfold packthreadkeep_Octets.f
  rw [if_pos e0, if_pos e1, e, if_pos (by rw [List.length_take, List.length_nil]; omega), List.nil_append]
  congr 1
  by_cases c : l.length ≤ m
  · rw [Nat.min_eq_left c, List.take_length, List.take_of_length_le c]
  · rw [Nat.min_eq_right (by omega)]

/-- The sum of pairs, from an even place on (true) or from an odd one. -/
def S : Bool → List Int → Int
  | _, [] => 0
  | true, x :: r => 256 * x + S false r
  | false, x :: r => x + S true r
theorem S_t (x : Int) (r : List Int) : S true (x :: r) = 256 * x + S false r := rfl
theorem S_f (x : Int) (r : List Int) : S false (x :: r) = x + S true r := rfl
/-- A number, folded. -/
def F (n : Int) : Int := if n = 0 then 0 else (n - 1) % 65535 + 1
theorem F_range (n : Int) : 0 ≤ F n ∧ F n ≤ 65535 := by unfold F; split <;> omega
theorem F_small {n : Int} (h0 : 0 ≤ n) (h1 : n ≤ 65535) : F n = n := by unfold F; split <;> omega
theorem F_pos {n : Int} (h : n ≠ 0) : F n = (n - 1) % 65535 + 1 := by unfold F; rw [if_neg h]
theorem F_congr {a b : Int} (h : (a - b) % 65535 = 0) (ha : a ≠ 0) (hb : b ≠ 0) : F a = F b := by rw [F_pos ha, F_pos hb]; omega
theorem F_step {n : Int} (h : 65535 < n) : F (n / 65536 + n % 65536) = F n := F_congr (by omega) (by omega) (by omega)
theorem S_range : ∀ (l : List Int) (p : Bool), Oct l → 0 ≤ S p l ∧ S p l ≤ 65280 * (l.length : Int)
  | [], p, _ => by cases p <;> simp [S]
  | x :: r, p, h => by
    have hx := h x (List.mem_cons_self ..)
    have hr : Oct r := fun y hy => h y (List.mem_cons_of_mem _ hy)
    have h1 := S_range r true hr
    have h2 := S_range r false hr
    cases p <;> simp only [S, List.length_cons] <;> omega
/-- What parity follows so many bytes. -/
def par (p : Bool) (n : Nat) : Bool := if n % 2 = 0 then p else !p
theorem par_of (i : Nat) : par true i = decide (i % 2 = 0) := by
  unfold par
  by_cases h : i % 2 = 0
  · rw [if_pos h, decide_eq_true h]
  · rw [if_neg h, decide_eq_false h]; rfl
theorem par_zero (p : Bool) : par p 0 = p := rfl
theorem par_succ (p : Bool) (n : Nat) : par (!p) n = par p (n + 1) := by
  unfold par
  rcases Nat.mod_two_eq_zero_or_one n with h | h
  · rw [if_pos h, if_neg (by omega)]
  · rw [if_neg (by omega), if_pos (by omega), Bool.not_not]
theorem S_append : ∀ (a b : List Int) (p : Bool), S p (a ++ b) = S p a + S (par p a.length) b
  | [], b, p => by cases p <;> simp [S, par_zero]
  | x :: r, b, true => by
    rw [List.cons_append, S_t, S_t, S_append r b false, List.length_cons, ← par_succ]; simp only [Bool.not_true]; omega
  | x :: r, b, false => by
    rw [List.cons_append, S_f, S_f, S_append r b true, List.length_cons, ← par_succ]; simp only [Bool.not_false]; omega
def wt (p : Bool) (i : Nat) : Int := if par p i = true then 256 else 1
theorem wt_succ (p : Bool) (i : Nat) : wt p (i + 1) = wt (!p) i := by unfold wt; rw [par_succ]
theorem S_set (l : List Int) : ∀ (i : Nat) (v : Int) (p : Bool), i < l.length → S p (l.set i v) = S p l + wt p i * (v - l.getD i 0) := by
  induction l with
  | nil => intro i v p h; simp at h
  | cons x r ih =>
    intro i v p h
    cases i with
    | zero =>
      rw [List.set_cons_zero, List.getD_cons_zero]
      cases p
      · have e : wt false 0 = 1 := rfl
        rw [S_f, S_f, e]; omega
      · have e : wt true 0 = 256 := rfl
        rw [S_t, S_t, e]; omega
    | succ i =>
      have h' : i < r.length := by simpa using h
      rw [List.set_cons_succ, List.getD_cons_succ, wt_succ]
      cases p
      · rw [S_f, S_f, ih i v true h', Bool.not_false]
        generalize wt true i * (v - r.getD i 0) = z
        omega
      · rw [S_t, S_t, ih i v false h', Bool.not_true]
        generalize wt false i * (v - r.getD i 0) = z
        omega

theorem and16 {x : Int} (h0 : 0 ≤ x) (h1 : x < 2 ^ 62) : Go.bits .and .i64 x 65535 = x % 65536 :=
  bits_mask .i64 62 (by decide) (fun n h0 h1 => by rw [IntKind.wrap_i64]; omega) 16 (by decide) x h0 h1
theorem or8 {x y : Int} (h0 : 0 ≤ x) (h1 : x ≤ 255) (h2 : 0 ≤ y) (h3 : y ≤ 255) : Go.bits .or .i64 (x * 256) y = x * 256 + y :=
  bits_join .i64 31 (by decide) (fun n h0 h1 => by rw [IntKind.wrap_i64]; omega) 8 (x * 256) y (by omega) (by omega) (by omega) h2 (by omega) (by omega)
theorem fold_base (k : Nat) {n : Int} (h0 : 0 ≤ n) (h1 : n ≤ 65535) : inet_fold.l0 (k + 1) n = some (F n) := by
  rw [inet_fold.l0, if_neg (by omega), F_small h0 h1]
theorem fold_step (k : Nat) {n : Int} (h0 : 65535 < n) (h1 : n ≤ 281474976710656) : inet_fold.l0 (k + 1) n = inet_fold.l0 k (n / 65536 + n % 65536) := by
  rw [inet_fold.l0, if_pos h0, and16 (by omega) (by omega), wrap64_id (by omega) (by omega)]
theorem fold_up {b c : Int} {j : Nat} (hb : ∀ k n, 0 ≤ n → n ≤ b → inet_fold.l0 (k + j) n = some (F n)) (hc : c ≤ 281474976710656)
    (hs : ∀ n : Int, 65535 < n → n ≤ c → n / 65536 + n % 65536 ≤ b) : ∀ k n, 0 ≤ n → n ≤ c → inet_fold.l0 (k + (j + 1)) n = some (F n) := by
  intro k n h0 h1
  by_cases h : n ≤ 65535
  · exact fold_base (k + j) h0 h
  · rw [show k + (j + 1) = (k + j) + 1 by omega, fold_step _ (by omega) (by omega), hb k _ (by omega) (hs n (by omega) h1), F_step (by omega)]
theorem fold_eq (k : Nat) {n : Int} (hk : 4 ≤ k) (h0 : 0 ≤ n) (h1 : n ≤ 140737488355328) : inet_fold.f k n = some (F n) := by
  have a1 := fold_up (b := 65535) (c := 131070) (j := 1) (fun k n h0 h1 => fold_base k h0 h1) (by decide) (fun n _ _ => by omega)
  have a2 := fold_up (c := 4294967295) a1 (by decide) (fun n _ _ => by omega)
  have a3 := fold_up (c := 140737488355328) a2 (by decide) (fun n _ _ => by omega)
  have := a3 (k - 4) n h0 h1
  rw [show k - 4 + (1 + 1 + 1 + 1) = k by omega] at this
  exact this
theorem Fold_loop (xs : List Int) (ho : Oct xs) (hl : xs.length ≤ 1000000) (d : Nat) : ∀ (k i : Nat) (n : Int), i + d = xs.length → d + 5 ≤ k → 0 ≤ n → n ≤ 65280 * (i : Int) →
    inet_Fold.l0 k n xs (xs.length : Int) (i : Int) = some (F (n + S (par true i) (xs.drop i))) := by
  induction d with
  | zero =>
    intro k i n hi hk h0 h1
    obtain ⟨k, rfl⟩ : ∃ m, k = m + 1 := ⟨k - 1, by omega⟩
    rw [inet_Fold.l0, if_neg (by omega), List.drop_of_length_le (by omega), fold_eq k (by omega) h0 (by omega)]
    cases par true i <;> simp [S]
  | succ d ih =>
    intro k i n hi hk h0 h1
    obtain ⟨k, rfl⟩ : ∃ m, k = m + 1 := ⟨k - 1, by omega⟩
    have hx := ho.getD i
    have hr : rd xs (i : Int) = xs.getD i 0 := rfl
    have hd : xs.drop i = xs.getD i 0 :: xs.drop (i + 1) := by
      rw [List.drop_eq_getElem_cons (by omega : i < xs.length), List.getD_eq_getElem?_getD, List.getElem?_eq_getElem (by omega : i < xs.length)]; rfl
    have hp : par true (i + 1) = !(par true i) := by rw [← par_succ]; unfold par; split <;> rfl
    have e1 : ((i : Int) + 1) = ((i + 1 : Nat) : Int) := by omega
    rw [inet_Fold.l0, if_pos (by omega), if_pos (by omega), if_pos (by omega), hr, hd, wrap64_id (x := xs.getD i 0) (by omega) (by omega), wrap64_id (x := (i : Int) + 1) (by omega) (by omega), e1, Int.tmod_eq_emod_of_nonneg (by omega)]
    by_cases c : (i : Int) % 2 = 0
    · have hq : par true i = true := by rw [par_of]; exact decide_eq_true (by omega)
      rw [if_pos c, wrap64_id (x := xs.getD i 0 * 256) (by omega) (by omega), wrap64_id (by omega) (by omega), ih k (i + 1) _ (by omega) (by omega) (by omega) (by omega), hp, hq, S]
      simp only [Bool.not_true]
      congr 2; omega
    · have hq : par true i = false := by rw [par_of]; exact decide_eq_false (by omega)
      rw [if_neg c, wrap64_id (by omega) (by omega), ih k (i + 1) _ (by omega) (by omega) (by omega) (by omega), hp, hq, S]
      simp only [Bool.not_false]
      congr 2; omega
theorem Fold_eq (k : Nat) (xs : List Int) (ho : Oct xs) (hl : xs.length ≤ 1000000) (hk : xs.length + 5 ≤ k) : inet_Fold.f k xs = some (F (S true xs)) := by
  unfold inet_Fold.f
  have := Fold_loop xs ho hl xs.length k 0 0 (by omega) hk (by omega) (by omega)
  rw [par_zero, List.drop_zero, Int.zero_add] at this
  exact this

theorem Sum_eq (k : Nat) (xs : List Int) (ho : Oct xs) (hl : xs.length ≤ 1000000) (hk : xs.length + 5 ≤ k) : inet_Sum.f k xs = some (65535 - F (S true xs)) := by
  have := F_range (S true xs)
  unfold inet_Sum.f
  rw [Fold_eq k xs ho hl hk]
  simp only [Option.bind_some]
  rw [wrap64_id (by omega) (by omega)]

theorem sameb_l0 (l : List Int) (hL : l.length ≤ 100000) : ∀ (m i k : Nat), i + m = l.length → m < k → packthreadkeep_sameBytes.l0 k l l (i : Int) = some true := by
  intro m
  induction m with
  | zero =>
    intro i k hi hk
    obtain ⟨k, rfl⟩ : ∃ q, k = q + 1 := ⟨k - 1, by omega⟩
    rw [packthreadkeep_sameBytes.l0, if_neg (by omega)]
  | succ m ih =>
    intro i k hi hk
    obtain ⟨k, rfl⟩ : ∃ q, k = q + 1 := ⟨k - 1, by omega⟩
    have hw1 : wrap64 ((i : Int) + 1) = ((i + 1 : Nat) : Int) := by rw [wrap64_id (by omega) (by omega)]; omega
    rw [packthreadkeep_sameBytes.l0, if_pos (by omega), if_pos (by omega), if_pos (by omega), if_pos rfl, hw1]
    exact ih (i + 1) k (by omega) (by omega)
theorem sameb_eq (k : Nat) (l : List Int) (hL : l.length ≤ 100000) (hk : l.length < k) : packthreadkeep_sameBytes.f k l l = some true := by
  unfold packthreadkeep_sameBytes.f
  rw [if_pos rfl]
  exact sameb_l0 l hL l.length 0 k (by omega) (by omega)

theorem octB_of {l : List Int} (h : Oct l) : octB l = true := by
  unfold octB
  rw [List.all_eq_true]
  intro x hx
  exact decide_eq_true (h x hx)
theorem rd_nat (l : List Int) (n : Nat) : rd l (n : Int) = l.getD n 0 := by unfold rd; rw [Int.toNat_natCast]
theorem wd_at {l : List Int} (h : Oct l) (n : Nat) : wd l n = l.getD n 0 * 256 + l.getD (n + 1) 0 := by
  have h0 := h.getD n
  have h1 := h.getD (n + 1)
  unfold wd
  rw [show ((n : Int) + 1) = ((n + 1 : Nat) : Int) by omega, rd_nat, rd_nat]
  exact or8 (by omega) (by omega) (by omega) (by omega)
/-- ten bytes and a rest -/
def H10 (x0 x1 x2 x3 x4 x5 x6 x7 x8 x9 : Int) (t : List Int) : List Int := x0 :: x1 :: x2 :: x3 :: x4 :: x5 :: x6 :: x7 :: x8 :: x9 :: t
theorem encL_eq (s a wn : Int) (b3 b4 b5 b6 : Bool) (l7 : List S52) (l8 : List Int) : encL s a wn b3 b4 b5 b6 l7 l8 = H10 (s / 256 % 256) (s % 256) (a / 256 % 256) (a % 256) (wn / 256 % 256) (wn % 256) (flgF b3 b4 b5 b6 4) (l7.length : Int) 0 0 (encS l7 ++ l8) := by
  unfold encL H10 tw
  simp
theorem seal_H (x0 x1 x2 x3 x4 x5 x6 x7 x8 x9 : Int) (t : List Int) (sm : Int) : sealF (H10 x0 x1 x2 x3 x4 x5 x6 x7 x8 x9 t) sm = H10 x0 x1 x2 x3 x4 x5 x6 x7 (sm / 256 % 256) (sm % 256) t := rfl
theorem blank_H (x0 x1 x2 x3 x4 x5 x6 x7 x8 x9 : Int) (t : List Int) : blankF (H10 x0 x1 x2 x3 x4 x5 x6 x7 x8 x9 t) = H10 x0 x1 x2 x3 x4 x5 x6 x7 0 0 t := rfl
theorem flg_rng (b3 b4 b5 b6 : Bool) : 0 ≤ flgF b3 b4 b5 b6 4 ∧ flgF b3 b4 b5 b6 4 < 16 := by cases b3 <;> cases b4 <;> cases b5 <;> cases b6 <;> decide
theorem flg_0 (b3 b4 b5 b6 : Bool) : (Go.bits .and .u8 (flgF b3 b4 b5 b6 4) 1 == 1) = b3 := by cases b3 <;> cases b4 <;> cases b5 <;> cases b6 <;> decide
theorem flg_1 (b3 b4 b5 b6 : Bool) : (Go.bits .and .u8 (flgF b3 b4 b5 b6 4 / 2) 1 == 1) = b4 := by cases b3 <;> cases b4 <;> cases b5 <;> cases b6 <;> decide
theorem flg_2 (b3 b4 b5 b6 : Bool) : (Go.bits .and .u8 (flgF b3 b4 b5 b6 4 / 4) 1 == 1) = b5 := by cases b3 <;> cases b4 <;> cases b5 <;> cases b6 <;> decide
theorem flg_3 (b3 b4 b5 b6 : Bool) : (Go.bits .and .u8 (flgF b3 b4 b5 b6 4 / 8) 1 == 1) = b6 := by cases b3 <;> cases b4 <;> cases b5 <;> cases b6 <;> decide
/-- ranges out of bytes -/
def gS : List Int → Nat → List S52
  | _, 0 => []
  | p :: q :: r :: u :: t, n + 1 => ⟨p * 256 + q, r * 256 + u⟩ :: gS t n
  | _, _ => []
theorem encS_cons (r : S52) (l : List S52) : encS (r :: l) = (r.f0 / 256 % 256) :: (r.f0 % 256) :: (r.f1 / 256 % 256) :: (r.f1 % 256) :: encS l := by simp [encS, tw]
theorem gS_enc (r : List Int) : ∀ (l : List S52), serB l = true → gS (encS l ++ r) l.length = l
  | [], _ => by cases r <;> rfl
  | x :: l, h => by
    have hx : decide (0 ≤ x.f0 ∧ x.f0 < 65536 ∧ 0 ≤ x.f1 ∧ x.f1 < 65536) = true := by
      unfold serB at h; rw [List.all_eq_true] at h; exact h x (List.mem_cons_self ..)
    have hx2 := of_decide_eq_true hx
    have hl : serB l = true := by
      unfold serB at h ⊢; rw [List.all_eq_true] at h ⊢; exact fun y hy => h y (List.mem_cons_of_mem _ hy)
    rw [encS_cons, List.length_cons]
    show ⟨x.f0 / 256 % 256 * 256 + x.f0 % 256, x.f1 / 256 % 256 * 256 + x.f1 % 256⟩ :: gS (encS l ++ r) l.length = x :: l
    rw [gS_enc r l hl, show x.f0 / 256 % 256 * 256 + x.f0 % 256 = x.f0 by omega, show x.f1 / 256 % 256 * 256 + x.f1 % 256 = x.f1 by omega]
theorem gS_map : ∀ (n : Nat) (t : List Int), 4 * n ≤ t.length → (List.range n).map (fun j => (⟨t.getD (4 * j) 0 * 256 + t.getD (4 * j + 1) 0, t.getD (4 * j + 2) 0 * 256 + t.getD (4 * j + 3) 0⟩ : S52)) = gS t n
  | 0, t, _ => by cases t <;> rfl
  | n + 1, t, h => by
    match t, h with
    | p :: q :: r :: u :: t, h =>
      rw [List.range_succ_eq_map, List.map_cons, List.map_map]
      have h2 : 4 * n ≤ t.length := by simp only [List.length_cons] at h; omega
      rw [show gS (p :: q :: r :: u :: t) (n + 1) = ⟨p * 256 + q, r * 256 + u⟩ :: gS t n from rfl, ← gS_map n t h2]
      rfl
    | [], h => simp at h
    | [_], h => simp only [List.length_cons, List.length_nil] at h; omega
    | [_, _], h => simp only [List.length_cons, List.length_nil] at h; omega
    | [_, _, _], h => simp only [List.length_cons, List.length_nil] at h; omega
theorem dS_H (x0 x1 x2 x3 x4 x5 x6 x7 x8 x9 : Int) (t : List Int) (ho : Oct (H10 x0 x1 x2 x3 x4 x5 x6 x7 x8 x9 t)) (n : Nat) (hn : 4 * n ≤ t.length) : dS (H10 x0 x1 x2 x3 x4 x5 x6 x7 x8 x9 t) n = gS t n := by
  rw [← gS_map n t hn]
  unfold dS
  apply List.map_congr_left
  intro j hj
  rw [wd_at ho, wd_at ho]
  have e : ∀ m, (H10 x0 x1 x2 x3 x4 x5 x6 x7 x8 x9 t).getD (10 + m) 0 = t.getD m 0 := fun m => by
    rw [show 10 + m = m + 10 by omega]; rfl
  rw [show 10 + 4 * j + 1 = 10 + (4 * j + 1) by omega, show 10 + 4 * j + 2 = 10 + (4 * j + 2) by omega, show 10 + (4 * j + 2) + 1 = 10 + (4 * j + 3) by omega, e, e, e, e]
theorem encS_length : ∀ (l : List S52), (encS l).length = 4 * l.length
  | [] => rfl
  | r :: l => by rw [encS_cons]; simp only [List.length_cons]; rw [encS_length l]; omega
theorem encS_oct : ∀ (l : List S52), Oct (encS l)
  | [] => fun x hx => by cases hx
  | r :: l => by
    rw [encS_cons]
    intro x hx
    simp only [List.mem_cons] at hx
    rcases hx with h | h | h | h | h
    · omega
    · omega
    · omega
    · omega
    · exact encS_oct l x h
theorem H10_oct {x0 x1 x2 x3 x4 x5 x6 x7 x8 x9 : Int} {t : List Int} (h0 : 0 ≤ x0 ∧ x0 ≤ 255) (h1 : 0 ≤ x1 ∧ x1 ≤ 255) (h2 : 0 ≤ x2 ∧ x2 ≤ 255) (h3 : 0 ≤ x3 ∧ x3 ≤ 255) (h4 : 0 ≤ x4 ∧ x4 ≤ 255) (h5 : 0 ≤ x5 ∧ x5 ≤ 255) (h6 : 0 ≤ x6 ∧ x6 ≤ 255) (h7 : 0 ≤ x7 ∧ x7 ≤ 255) (h8 : 0 ≤ x8 ∧ x8 ≤ 255) (h9 : 0 ≤ x9 ∧ x9 ≤ 255) (ht : Oct t) : Oct (H10 x0 x1 x2 x3 x4 x5 x6 x7 x8 x9 t) := by
  intro x hx
  unfold H10 at hx
  simp only [List.mem_cons] at hx
  rcases hx with rfl | rfl | rfl | rfl | rfl | rfl | rfl | rfl | rfl | rfl | h
  · exact h0
  · exact h1
  · exact h2
  · exact h3
  · exact h4
  · exact h5
  · exact h6
  · exact h7
  · exact h8
  · exact h9
  · exact ht x h
theorem H10_len (x0 x1 x2 x3 x4 x5 x6 x7 x8 x9 : Int) (t : List Int) : (H10 x0 x1 x2 x3 x4 x5 x6 x7 x8 x9 t).length = t.length + 10 := rfl
/-- the fields of a segment that is sent -/
def OkS (s a wn : Int) (b6 : Bool) (l7 : List S52) (l8 : List Int) : Prop := (0 ≤ s ∧ s < 65536) ∧ (0 ≤ a ∧ a < 65536) ∧ (0 ≤ wn ∧ wn ≤ 65535) ∧ serB l7 = true ∧ l7.length ≤ 3 ∧ l8.length ≤ 64 ∧ faultF a wn b6 l7.length l8.length = 0
theorem encL_oct {s a wn : Int} {b3 b4 b5 b6 : Bool} {l7 : List S52} {l8 : List Int} (ho : Oct l8) (h : OkS s a wn b6 l7 l8) (sm : Int) : Oct (sealF (encL s a wn b3 b4 b5 b6 l7 l8) sm) := by
  have hf := flg_rng b3 b4 b5 b6
  obtain ⟨_, _, _, _, h3, _, _⟩ := h
  rw [encL_eq, seal_H]
  exact H10_oct (by omega) (by omega) (by omega) (by omega) (by omega) (by omega) (by omega) (by omega) (by omega) (by omega) ((encS_oct l7).append ho)
theorem encL_oct0 {s a wn : Int} {b3 b4 b5 b6 : Bool} {l7 : List S52} {l8 : List Int} (ho : Oct l8) (h : OkS s a wn b6 l7 l8) : Oct (encL s a wn b3 b4 b5 b6 l7 l8) := by
  have hf := flg_rng b3 b4 b5 b6
  obtain ⟨_, _, _, _, h3, _, _⟩ := h
  rw [encL_eq]
  exact H10_oct (by omega) (by omega) (by omega) (by omega) (by omega) (by omega) (by omega) (by omega) (by omega) (by omega) ((encS_oct l7).append ho)
theorem encL_len (s a wn : Int) (b3 b4 b5 b6 : Bool) (l7 : List S52) (l8 : List Int) : (encL s a wn b3 b4 b5 b6 l7 l8).length = 10 + 4 * l7.length + l8.length := by
  rw [encL_eq, H10_len, List.length_append, encS_length]; omega
theorem seal_len (e : List Int) (sm : Int) : (sealF e sm).length = e.length := by unfold sealF; rw [List.length_set, List.length_set]
def smF (e : List Int) : Int := 65535 - F (S true e)
theorem sm_rng (e : List Int) : 0 ≤ smF e ∧ smF e ≤ 65535 := by have := F_range (S true e); unfold smF; omega
theorem enc_is {s a wn : Int} {b3 b4 b5 b6 : Bool} {l7 : List S52} {l8 : List Int} (ho : Oct l8) (h : OkS s a wn b6 l7 l8) : seg_Encode.f s a wn b3 b4 b5 b6 l7 l8 = some (sealF (encL s a wn b3 b4 b5 b6 l7 l8) (smF (encL s a wn b3 b4 b5 b6 l7 l8)), 0) := by
  have hl := encL_len s a wn b3 b4 b5 b6 l7 l8
  have hb : l7.length ≤ 3 ∧ l8.length ≤ 64 := ⟨h.2.2.2.2.1, h.2.2.2.2.2.1⟩
  unfold OkS at h
  unfold seg_Encode.f
  rw [if_pos h, Sum_eq 1000 _ (encL_oct0 ho h) (by omega) (by omega), Option.bind_some]
  rfl
/-- what is read of ten bytes and a rest -/
theorem dec_H {x0 x1 x2 x3 x4 x5 x6 x7 x8 x9 : Int} {t : List Int} (ho : Oct (H10 x0 x1 x2 x3 x4 x5 x6 x7 x8 x9 t)) (hl : t.length ≤ 1000) :
    seg_Decode.f (H10 x0 x1 x2 x3 x4 x5 x6 x7 x8 x9 t) = some (decF (smF (H10 x0 x1 x2 x3 x4 x5 x6 x7 0 0 t)) (H10 x0 x1 x2 x3 x4 x5 x6 x7 x8 x9 t)) := by
  have hlen := H10_len x0 x1 x2 x3 x4 x5 x6 x7 x8 x9 t
  have hob : Oct (H10 x0 x1 x2 x3 x4 x5 x6 x7 0 0 t) := by
    have := (ho.set 8 0 (by decide) (by decide)).set 9 0 (by decide) (by decide)
    exact this
  unfold seg_Decode.f
  rw [if_neg (by omega), if_pos ⟨by omega, octB_of ho⟩, blank_H, Sum_eq _ _ hob (by rw [H10_len]; omega) (by rw [hlen, H10_len]; omega), Option.bind_some]
  rfl
theorem w8_H {x0 x1 x2 x3 x4 x5 x6 x7 x8 x9 : Int} {t : List Int} (ho : Oct (H10 x0 x1 x2 x3 x4 x5 x6 x7 x8 x9 t)) : wd (H10 x0 x1 x2 x3 x4 x5 x6 x7 x8 x9 t) 8 = x8 * 256 + x9 := wd_at ho 8
/-- A SEGMENT COMES BACK. -/
theorem dec_enc {s a wn : Int} {b3 b4 b5 b6 : Bool} {l7 : List S52} {l8 : List Int} (ho : Oct l8) (h : OkS s a wn b6 l7 l8) :
    seg_Decode.f (sealF (encL s a wn b3 b4 b5 b6 l7 l8) (smF (encL s a wn b3 b4 b5 b6 l7 l8))) = some (s, a, wn, b3, b4, b5, b6, l7, l8, 0) := by
  have hO := encL_oct (b3 := b3) (b4 := b4) (b5 := b5) ho h (smF (encL s a wn b3 b4 b5 b6 l7 l8))
  have hr := sm_rng (encL s a wn b3 b4 b5 b6 l7 l8)
  obtain ⟨hs, ha, hw, hg, h3, h64, hf⟩ := h
  have hfl := flg_rng b3 b4 b5 b6
  have hE := encL_eq s a wn b3 b4 b5 b6 l7 l8
  generalize hsm : smF (encL s a wn b3 b4 b5 b6 l7 l8) = sm at *
  rw [hE, seal_H] at hO ⊢
  rw [dec_H hO (by rw [List.length_append, encS_length]; omega), ← hE, hsm]
  have w0 : wd _ 0 = _ := wd_at hO 0
  have w2 : wd _ 2 = _ := wd_at hO 2
  have w4 : wd _ 4 = _ := wd_at hO 4
  have w8 := w8_H hO
  have hd := dS_H _ _ _ _ _ _ _ _ _ _ _ hO l7.length (by rw [List.length_append, encS_length]; omega)
  rw [gS_enc l8 l7 hg] at hd
  generalize hX : H10 (s / 256 % 256) (s % 256) (a / 256 % 256) (a % 256) (wn / 256 % 256) (wn % 256) (flgF b3 b4 b5 b6 4) (l7.length : Int) (sm / 256 % 256) (sm % 256) (encS l7 ++ l8) = X at *
  have r6 : rd X 6 = flgF b3 b4 b5 b6 4 := by rw [← hX]; rfl
  have r7 : rd X 7 = (l7.length : Int) := by rw [← hX]; rfl
  have v0 : wd X 0 = s := by rw [w0, ← hX]; show s / 256 % 256 * 256 + s % 256 = s; omega
  have v2 : wd X 2 = a := by rw [w2, ← hX]; show a / 256 % 256 * 256 + a % 256 = a; omega
  have v4 : wd X 4 = wn := by rw [w4, ← hX]; show wn / 256 % 256 * 256 + wn % 256 = wn; omega
  have hlen : X.length = 10 + 4 * l7.length + l8.length := by rw [← hX, H10_len, List.length_append, encS_length]; omega
  have hdr : X.drop (10 + 4 * l7.length) = l8 := by
    rw [← hX]
    show (H10 _ _ _ _ _ _ _ _ _ _ (encS l7 ++ l8)).drop (10 + 4 * l7.length) = l8
    rw [show 10 + 4 * l7.length = 4 * l7.length + 10 by omega]
    show (encS l7 ++ l8).drop (4 * l7.length) = l8
    rw [← encS_length l7, List.drop_left]
  have t0 : PSegSees.bt X 0 = b3 := by unfold PSegSees.bt; rw [r6]; exact flg_0 b3 b4 b5 b6
  have t1 : PSegSees.bt X 1 = b4 := by unfold PSegSees.bt; rw [r6]; exact flg_1 b3 b4 b5 b6
  have t2 : PSegSees.bt X 2 = b5 := by unfold PSegSees.bt; rw [r6]; exact flg_2 b3 b4 b5 b6
  have t3 : PSegSees.bt X 3 = b6 := by unfold PSegSees.bt; rw [r6]; exact flg_3 b3 b4 b5 b6
  unfold decF
  rw [if_neg (by rw [w8]; omega), r6, r7, Int.toNat_natCast, if_neg (by omega), v2, v4, t3, hlen, show 10 + 4 * l7.length + l8.length - (10 + 4 * l7.length) = l8.length by omega, hf, if_neg (by decide), v0, t0, t1, t2, hd, hdr]

theorem samer_l0 (l : List S52) (hL : l.length ≤ 100000) : ∀ (m i k : Nat), i + m = l.length → m < k → packthreadkeep_sameRanges.l0 k l l (i : Int) = some true := by
  intro m
  induction m with
  | zero =>
    intro i k hi hk
    obtain ⟨k, rfl⟩ : ∃ q, k = q + 1 := ⟨k - 1, by omega⟩
    rw [packthreadkeep_sameRanges.l0, if_neg (by omega)]
  | succ m ih =>
    intro i k hi hk
    obtain ⟨k, rfl⟩ : ∃ q, k = q + 1 := ⟨k - 1, by omega⟩
    have hw1 : wrap64 ((i : Int) + 1) = ((i + 1 : Nat) : Int) := by rw [wrap64_id (by omega) (by omega)]; omega
    rw [packthreadkeep_sameRanges.l0, if_pos (by omega), if_pos (by omega), if_pos (by omega), if_neg (by simp), hw1]
    exact ih (i + 1) k (by omega) (by omega)
theorem samer_eq (k : Nat) (l : List S52) (hL : l.length ≤ 100000) (hk : l.length < k) : packthreadkeep_sameRanges.f k l l = some true := by
  unfold packthreadkeep_sameRanges.f
  rw [if_pos rfl]
  exact samer_l0 l hL l.length 0 k (by omega) (by omega)
theorem sameS_eq (k : Nat) (s a wn : Int) (b3 b4 b5 b6 : Bool) (l7 : List S52) (l8 : List Int) (h7 : l7.length ≤ 3) (h8 : l8.length ≤ 64) (hk : 1000 ≤ k) : packthreadkeep_sameSegment.f k s a wn b3 b4 b5 b6 l7 l8 s a wn b3 b4 b5 b6 l7 l8 = some true := by
  unfold packthreadkeep_sameSegment.f
  have e : ∀ b : Bool, (b == b) = true := fun b => by cases b <;> rfl
  rw [if_pos rfl, if_pos rfl, if_pos rfl, if_pos (e b3), if_pos (e b4), if_pos (e b5), if_pos (e b6), samer_eq k l7 (by omega) (by omega), Option.bind_some, if_pos rfl, sameb_eq k l8 (by omega) (by omega), Option.bind_some]

theorem seg_is (a0 a1 a2 a3 : Int) (l4 l5 : List Int) (ho : Oct l5) : ∃ (s a wn : Int) (b3 b4 b5 b6 : Bool) (l7 : List S52) (l8 : List Int), packthreadkeep_Seg.f a0 a1 a2 a3 l4 l5 = some (s, a, wn, b3, b4, b5, b6, l7, l8) ∧ OkS s a wn b6 l7 l8 ∧ Oct l8 := by
  have h64 : (l5.take 64).length ≤ 64 := by rw [List.length_take]; omega
  unfold packthreadkeep_Seg.f
  by_cases c : fb a3 8 = true
  · rw [if_pos c]
    have hn : (sk l4 (min 3 (l4.length / 2))).length ≤ 3 := by unfold sk; rw [List.length_map, List.length_range]; omega
    refine ⟨_, _, _, _, _, _, _, _, _, rfl, ⟨by omega, by omega, by omega, ?_, hn, h64, ?_⟩, ho.take 64⟩
    · unfold serB
      rw [List.all_eq_true]
      intro r hr
      obtain ⟨j, _, rfl⟩ := List.mem_map.1 hr
      exact decide_eq_true (by dsimp only; omega)
    · unfold faultF
      rw [if_neg (by omega), if_neg (fun h => by cases h.1)]
  · rw [if_neg c]
    refine ⟨_, _, _, _, _, _, _, _, _, rfl, ⟨by omega, by omega, by omega, rfl, by simp, h64, ?_⟩, ho.take 64⟩
    unfold faultF
    rw [if_neg (by simp; omega), if_neg (by simp)]

theorem xor8 (a b : Nat) (ha : a < 256) (hb : b < 256) : Go.bits .xor .u8 (a : Int) (b : Int) = ((a ^^^ b : Nat) : Int) := by
  have hx : a ^^^ b < 2 ^ 8 := Nat.xor_lt_two_pow (by omega) (by omega)
  have h1 : (BitVec.ofInt 8 (a : Int)).toNat = a := by
    rw [BitVec.ofInt_natCast, BitVec.toNat_ofNat]; exact Nat.mod_eq_of_lt (by omega)
  have h2 : (BitVec.ofInt 8 (b : Int)).toNat = b := by
    rw [BitVec.ofInt_natCast, BitVec.toNat_ofNat]; exact Nat.mod_eq_of_lt (by omega)
  show IntKind.u8.wrap ((BitVec.ofInt 8 (a : Int) ^^^ BitVec.ofInt 8 (b : Int)).toNat : Int) = _
  rw [BitVec.toNat_xor, h1, h2]
  simp only [IntKind.wrap, IntKind.bits, IntKind.signed]
  simp
  omega
theorem xor_ne (x y : Int) (hx : 0 ≤ x ∧ x ≤ 255) (hy : 0 ≤ y ∧ y ≤ 255) : (0 ≤ Go.bits .xor .u8 x y ∧ Go.bits .xor .u8 x y ≤ 255) ∧ (y = 0 → Go.bits .xor .u8 x y = x) ∧ (y ≠ 0 → Go.bits .xor .u8 x y ≠ x) := by
  obtain ⟨a, rfl⟩ : ∃ a : Nat, x = (a : Int) := ⟨x.toNat, by omega⟩
  obtain ⟨b, rfl⟩ : ∃ b : Nat, y = (b : Int) := ⟨y.toNat, by omega⟩
  have hlt : a ^^^ b < 2 ^ 8 := Nat.xor_lt_two_pow (by omega) (by omega)
  rw [xor8 a b (by omega) (by omega)]
  refine ⟨by omega, fun h => ?_, fun h e => ?_⟩
  · rw [show b = 0 by omega, Nat.xor_zero]
  · have e2 : a ^^^ b = a := by omega
    have e3 : a ^^^ (a ^^^ b) = b := by rw [← Nat.xor_assoc, Nat.xor_self, Nat.zero_xor]
    rw [e2, Nat.xor_self] at e3
    omega
theorem F_ne {a b : Int} (h : a ≠ b) (h1 : -65535 < a - b) (h2 : a - b < 65535) : F a ≠ F b := by
  unfold F
  split <;> split <;> omega
theorem dec_any (y : List Int) (ho : Oct y) (h10 : 10 ≤ y.length) (hl : y.length ≤ 1000) : seg_Decode.f y = some (decF (smF (blankF y)) y) := by
  unfold seg_Decode.f
  have hob : Oct (blankF y) := (ho.set 8 0 (by decide) (by decide)).set 9 0 (by decide) (by decide)
  have hbl : (blankF y).length = y.length := by unfold blankF; rw [List.length_set, List.length_set]
  rw [if_neg (by omega), if_pos ⟨by omega, octB_of ho⟩, Sum_eq _ _ hob (by omega) (by omega), Option.bind_some]
  rfl
theorem getD_set_ne' (l : List Int) (i j : Nat) (v : Int) (h : i ≠ j) : (l.set i v).getD j 0 = l.getD j 0 := by
  rw [List.getD_eq_getElem?_getD, List.getD_eq_getElem?_getD, List.getElem?_set_ne h]
theorem getD_set_eq' (l : List Int) (i : Nat) (v : Int) (h : i < l.length) : (l.set i v).getD i 0 = v := by
  rw [List.getD_eq_getElem?_getD, List.getElem?_set_self h]; rfl
/-- A CHANGED BYTE IS SEEN -/
theorem seen (X E : List Int) (hX : Oct X) (hb : blankF X = E) (hw : wd X 8 = smF E) (p : Nat) (hp : p < X.length) (v : Int) (hv : 0 ≤ v ∧ v ≤ 255) (hne : v ≠ X.getD p 0) : smF (blankF (X.set p v)) ≠ wd (X.set p v) 8 := by
  have hY : Oct (X.set p v) := hX.set p v hv.1 hv.2
  rw [wd_at hX] at hw
  rw [wd_at hY]
  have hxp := hX.getD p
  by_cases c8 : p = 8
  · subst c8
    have e : blankF (X.set 8 v) = E := by rw [← hb]; unfold blankF; rw [List.set_set]
    rw [e, getD_set_eq' X 8 v hp, getD_set_ne' X 8 9 v (by decide), ← hw]
    have e9 := hX.getD 9
    show X.getD 8 0 * 256 + X.getD 9 0 ≠ _
    omega
  · by_cases c9 : p = 9
    · subst c9
      have e : blankF (X.set 9 v) = E := by
        rw [← hb]; unfold blankF; rw [List.set_comm v 0 (by decide : (9 : Nat) ≠ 8), List.set_set]
      rw [e, getD_set_ne' X 9 8 v (by decide), getD_set_eq' X 9 v hp, ← hw]
      show X.getD 8 0 * 256 + X.getD 9 0 ≠ _
      omega
    · have e : blankF (X.set p v) = E.set p v := by
        rw [← hb]; unfold blankF; rw [List.set_comm v 0 c8, List.set_comm v 0 c9]
      have hE : E.getD p 0 = X.getD p 0 := by
        rw [← hb]; unfold blankF; rw [getD_set_ne' _ 9 p 0 (by omega), getD_set_ne' _ 8 p 0 (by omega)]
      have hEl : E.length = X.length := by rw [← hb]; unfold blankF; rw [List.length_set, List.length_set]
      rw [e, getD_set_ne' X p 8 v c8, getD_set_ne' X p (8 + 1) v c9, hw]
      unfold smF
      have hS := S_set E p v true (by omega)
      rw [hE] at hS
      have hF : F (S true (E.set p v)) ≠ F (S true E) := by
        unfold wt at hS
        split at hS
        · exact F_ne (by omega) (by omega) (by omega)
        · exact F_ne (by omega) (by omega) (by omega)
      omega

theorem SegSees : packthreadkeep_SegSees.Pure := by
  intro a0 a1 a2 a3 l4 l5 a6 a7 _ _ _ _ _ _ _ _ _ h5 _ h7
  have ho5 := oct_of h5
  have hb7 : 0 ≤ a7 ∧ a7 ≤ 255 := by
    simp [Lit.wf, IntKind.min, IntKind.max, IntKind.signed, IntKind.bits] at h7
    omega
  obtain ⟨s, a, wn, b3, b4, b5, b6, l7, l8, hS, hok, ho⟩ := seg_is a0 a1 a2 a3 l4 l5 ho5
  have h3 : l7.length ≤ 3 := hok.2.2.2.2.1
  have h64 : l8.length ≤ 64 := hok.2.2.2.2.2.1
  obtain ⟨k, hk⟩ : ∃ k, 2000 ≤ k := ⟨2000, Nat.le_refl _⟩
  refine ⟨k + 1, ?_⟩
  have hlen : (sealF (encL s a wn b3 b4 b5 b6 l7 l8) (smF (encL s a wn b3 b4 b5 b6 l7 l8))).length = 10 + 4 * l7.length + l8.length := by rw [seal_len, encL_len]
  have hd := dec_enc (b3 := b3) (b4 := b4) (b5 := b5) ho hok
  have he := enc_is (b3 := b3) (b4 := b4) (b5 := b5) ho hok
  have hX := encL_oct (b3 := b3) (b4 := b4) (b5 := b5) ho hok (smF (encL s a wn b3 b4 b5 b6 l7 l8))
  have hbl : blankF (sealF (encL s a wn b3 b4 b5 b6 l7 l8) (smF (encL s a wn b3 b4 b5 b6 l7 l8))) = encL s a wn b3 b4 b5 b6 l7 l8 := by rw [encL_eq, seal_H, blank_H]
  have hw : wd (sealF (encL s a wn b3 b4 b5 b6 l7 l8) (smF (encL s a wn b3 b4 b5 b6 l7 l8))) 8 = smF (encL s a wn b3 b4 b5 b6 l7 l8) := by
    have hr := sm_rng (encL s a wn b3 b4 b5 b6 l7 l8)
    have h0 := wd_at hX 8
    rw [h0]
    generalize smF (encL s a wn b3 b4 b5 b6 l7 l8) = sm at *
    rw [encL_eq, seal_H]
    show sm / 256 % 256 * 256 + sm % 256 = sm
    omega
  generalize sealF (encL s a wn b3 b4 b5 b6 l7 l8) (smF (encL s a wn b3 b4 b5 b6 l7 l8)) = X at *
  have hp0 := Int.emod_nonneg a6 (show (X.length : Int) ≠ 0 by omega)
  have hp1 := Int.emod_lt_of_pos a6 (show 0 < (X.length : Int) by omega)
  obtain ⟨p, hp⟩ : ∃ p : Nat, a6 % (X.length : Int) = (p : Int) := ⟨(a6 % (X.length : Int)).toNat, by omega⟩
  unfold packthreadkeep_SegSees.f
  rw [hS, Option.bind_some]
  dsimp only
  rw [he, Option.bind_some]
  dsimp only
  rw [if_pos rfl, decide_eq_false (show ¬ (X.length : Int) < 10 by omega), packthreadkeep_SegSees.j0, if_neg (by decide), if_pos (by rw [List.length_nil]; omega), List.nil_append, Option.bind_some, picked_eq a6 _ (by omega) (by omega), Option.bind_some, hp, if_pos (by omega), if_pos (by omega), Int.toNat_natCast, rd_nat]
  obtain ⟨x1, x2, x3⟩ := xor_ne (X.getD p 0) a7 (hX.getD p) hb7
  generalize Go.bits .xor .u8 (X.getD p 0) a7 = v at *
  by_cases c : a7 = 0
  · have e : X.set p v = X := by
      rw [x2 c, List.getD_eq_getElem?_getD, List.getElem?_eq_getElem (by omega : p < X.length)]
      exact List.set_getElem_self (by omega)
    rw [e, hd, Option.bind_some, if_pos c]
    rfl
  · have hs := seen X _ hX hbl hw p (by omega) v x1 (x3 c)
    rw [dec_any (X.set p v) (hX.set p v x1.1 x1.2) (by rw [List.length_set]; omega) (by rw [List.length_set]; omega), Option.bind_some, if_neg c]
    unfold decF
    rw [if_pos hs]
    unfold zSeg
    dsimp only
    rw [if_pos rfl, sameS_eq k 0 0 0 false false false false [] [] (by decide) (by decide) (by omega), Option.bind_some]

end Go.Proofs.Ytblkhkipbcpaiaa.Pure
