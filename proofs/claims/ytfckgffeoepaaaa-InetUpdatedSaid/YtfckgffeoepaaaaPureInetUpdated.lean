/- Proved: for every input the law InetUpdated answers true: a sum that is mended is the sum of the bytes as they are then, unless these are all 0. Condition: none (every list of bytes, all integers). -/
import Derived.Test.YtfckgffeoepaaaaPInetUpdatedx2
namespace Go.Proofs.Ytfckgffeoepaaaa.Pure
open Go.RowKit Go.Proofs.Ytfckgffeoepaaaa.PInetUpdated Go.Proofs.YtfckgffeoepaaaaW.PrintWords Go.Proofs.YtfckgffeoepaaaaW.PrintLast
set_option linter.unusedVariables false

theorem wrap64_id {x : Int} (h0 : -9223372036854775808 ≤ x) (h1 : x ≤ 9223372036854775807) : wrap64 x = x := by unfold wrap64; omega

theorem picked_eq (a n : Int) (h0 : 0 < n) (h1 : n ≤ 1000000000000) : packthreadkeep_Picked.f a n = some (a % n) := by
  unfold packthreadkeep_Picked.f
  rw [if_neg (by omega)]
  have hm := Int.tmod_eq_emod (a := a) (b := n)
  have hlo := Int.emod_nonneg a (show n ≠ 0 by omega)
  have hhi := Int.emod_lt_of_pos a h0
  by_cases hc : 0 ≤ a ∨ n ∣ a
  · rw [if_pos hc] at hm
    have e : a.tmod n = a % n := by rw [hm]; simp
    rw [e, if_neg (by omega)]
  · rw [if_neg hc] at hm
    have e : a.tmod n = a % n - n := by rw [hm]; congr 1; omega
    rw [e, if_pos (by omega), wrap64_id (by omega) (by omega)]
    congr 1; omega

def Oct (l : List Int) : Prop := ∀ x ∈ l, 0 ≤ x ∧ x ≤ 255
theorem oct_of {l : List Int} (h : ∀ x ∈ l, (Lit.int .u8 x).wf = true) : Oct l := fun x hx => by
  have := h x hx
  simp [Lit.wf, IntKind.min, IntKind.max, IntKind.signed, IntKind.bits] at this
  omega
theorem Oct.take {l : List Int} (h : Oct l) (n : Nat) : Oct (l.take n) := fun x hx => h x (List.mem_of_mem_take hx)
theorem Oct.append {a b : List Int} (h : Oct a) (g : Oct b) : Oct (a ++ b) := fun x hx => by
  rcases List.mem_append.1 hx with h1 | h1
  · exact h x h1
  · exact g x h1
theorem Oct.set {l : List Int} (h : Oct l) (i : Nat) (v : Int) (h0 : 0 ≤ v) (h1 : v ≤ 255) : Oct (l.set i v) := fun x hx => by
  rcases List.mem_or_eq_of_mem_set hx with h2 | h2
  · exact h x h2
  · subst h2; exact ⟨h0, h1⟩
theorem Oct.getD {l : List Int} (h : Oct l) (i : Nat) : 0 ≤ l.getD i 0 ∧ l.getD i 0 ≤ 255 := by
  by_cases c : i < l.length
  · rw [List.getD_eq_getElem?_getD, List.getElem?_eq_getElem c]; exact h _ (List.getElem_mem c)
  · rw [List.getD_eq_getElem?_getD, List.getElem?_eq_none (by omega)]; simp
theorem octets_eq (l : List Int) (n : Int) (m : Nat) (hm : n = (m : Int)) (hn : m ≤ 1000000) : packthreadkeep_Octets.f l n = some (l.take m) := by
  subst hm
  have e : (mn (l.length : Int) m).toNat = min l.length m := by unfold mn; split <;> omega
  have e0 : 0 ≤ mn (l.length : Int) m := by unfold mn; split <;> omega
  have e1 : mn (l.length : Int) m ≤ l.length := by unfold mn; split <;> omega
  unfold packthreadkeep_Octets.f
  rw [if_pos e0, if_pos e1, e, if_pos (by rw [List.length_take, List.length_nil]; omega), List.nil_append]
  congr 1
  by_cases c : l.length ≤ m
  · rw [Nat.min_eq_left c, List.take_length, List.take_of_length_le c]
  · rw [Nat.min_eq_right (by omega)]

/-- The sum of pairs, from an even place on (true) or from an odd one. -/
def S : Bool → List Int → Int
  | _, [] => 0
  | true, x :: r => 256 * x + S false r
  | false, x :: r => x + S true r
theorem S_t (x : Int) (r : List Int) : S true (x :: r) = 256 * x + S false r := rfl
theorem S_f (x : Int) (r : List Int) : S false (x :: r) = x + S true r := rfl
/-- A number, folded. -/
def F (n : Int) : Int := if n = 0 then 0 else (n - 1) % 65535 + 1
theorem F_range (n : Int) : 0 ≤ F n ∧ F n ≤ 65535 := by unfold F; split <;> omega
theorem F_small {n : Int} (h0 : 0 ≤ n) (h1 : n ≤ 65535) : F n = n := by unfold F; split <;> omega
theorem F_pos {n : Int} (h : n ≠ 0) : F n = (n - 1) % 65535 + 1 := by unfold F; rw [if_neg h]
theorem F_congr {a b : Int} (h : (a - b) % 65535 = 0) (ha : a ≠ 0) (hb : b ≠ 0) : F a = F b := by rw [F_pos ha, F_pos hb]; omega
theorem F_step {n : Int} (h : 65535 < n) : F (n / 65536 + n % 65536) = F n := F_congr (by omega) (by omega) (by omega)
theorem S_range : ∀ (l : List Int) (p : Bool), Oct l → 0 ≤ S p l ∧ S p l ≤ 65280 * (l.length : Int)
  | [], p, _ => by cases p <;> simp [S]
  | x :: r, p, h => by
    have hx := h x (List.mem_cons_self ..)
    have hr : Oct r := fun y hy => h y (List.mem_cons_of_mem _ hy)
    have h1 := S_range r true hr
    have h2 := S_range r false hr
    cases p <;> simp only [S, List.length_cons] <;> omega
/-- What parity follows so many bytes. -/
def par (p : Bool) (n : Nat) : Bool := if n % 2 = 0 then p else !p
theorem par_of (i : Nat) : par true i = decide (i % 2 = 0) := by
  unfold par
  by_cases h : i % 2 = 0
  · rw [if_pos h, decide_eq_true h]
  · rw [if_neg h, decide_eq_false h]; rfl
theorem par_zero (p : Bool) : par p 0 = p := rfl
theorem par_succ (p : Bool) (n : Nat) : par (!p) n = par p (n + 1) := by
  unfold par
  rcases Nat.mod_two_eq_zero_or_one n with h | h
  · rw [if_pos h, if_neg (by omega)]
  · rw [if_neg (by omega), if_pos (by omega), Bool.not_not]
theorem S_append : ∀ (a b : List Int) (p : Bool), S p (a ++ b) = S p a + S (par p a.length) b
  | [], b, p => by cases p <;> simp [S, par_zero]
  | x :: r, b, true => by
    rw [List.cons_append, S_t, S_t, S_append r b false, List.length_cons, ← par_succ]; simp only [Bool.not_true]; omega
  | x :: r, b, false => by
    rw [List.cons_append, S_f, S_f, S_append r b true, List.length_cons, ← par_succ]; simp only [Bool.not_false]; omega
def wt (p : Bool) (i : Nat) : Int := if par p i = true then 256 else 1
theorem wt_succ (p : Bool) (i : Nat) : wt p (i + 1) = wt (!p) i := by unfold wt; rw [par_succ]
theorem S_set (l : List Int) : ∀ (i : Nat) (v : Int) (p : Bool), i < l.length → S p (l.set i v) = S p l + wt p i * (v - l.getD i 0) := by
  induction l with
  | nil => intro i v p h; simp at h
  | cons x r ih =>
    intro i v p h
    cases i with
    | zero =>
      rw [List.set_cons_zero, List.getD_cons_zero]
      cases p
      · have e : wt false 0 = 1 := rfl
        rw [S_f, S_f, e]; omega
      · have e : wt true 0 = 256 := rfl
        rw [S_t, S_t, e]; omega
    | succ i =>
      have h' : i < r.length := by simpa using h
      rw [List.set_cons_succ, List.getD_cons_succ, wt_succ]
      cases p
      · rw [S_f, S_f, ih i v true h', Bool.not_false]
        generalize wt true i * (v - r.getD i 0) = z
        omega
      · rw [S_t, S_t, ih i v false h', Bool.not_true]
        generalize wt false i * (v - r.getD i 0) = z
        omega

/-- A place of two bytes is changed. -/
theorem S_put (x : List Int) (j : Nat) (v : Int) (h : 2 * j + 1 < x.length) (h0 : 0 ≤ v) (h1 : v ≤ 65535) :
    S true ((x.set (2 * j) (v / 256 % 256)).set (2 * j + 1) (v % 256)) = S true x - (x.getD (2 * j) 0 * 256 + x.getD (2 * j + 1) 0) + v := by
  have e0 : wt true (2 * j) = 256 := by unfold wt; rw [par_of, decide_eq_true (by omega)]; rfl
  have e1 : wt true (2 * j + 1) = 1 := by unfold wt; rw [par_of, decide_eq_false (by omega)]; rfl
  have g : (x.set (2 * j) (v / 256 % 256)).getD (2 * j + 1) 0 = x.getD (2 * j + 1) 0 := by
    simp [List.getD_eq_getElem?_getD]
  rw [S_set _ _ _ _ (by rw [List.length_set]; omega), S_set _ _ _ _ (by omega), e0, e1, g]
  generalize x.getD (2 * j) 0 = p
  generalize x.getD (2 * j + 1) 0 = q
  omega
theorem S_word (x : List Int) (ho : Oct x) (j : Nat) (h : 2 * j + 1 < x.length) : x.getD (2 * j) 0 * 256 + x.getD (2 * j + 1) 0 ≤ S true x := by
  have h3 := S_put x j 0 h (by decide) (by decide)
  have ho2 : Oct ((x.set (2 * j) (0 / 256 % 256)).set (2 * j + 1) (0 % 256)) := (ho.set _ _ (by decide) (by decide)).set _ _ (by decide) (by decide)
  have h4 := S_range _ true ho2
  omega

theorem and16 {x : Int} (h0 : 0 ≤ x) (h1 : x < 2 ^ 62) : Go.bits .and .i64 x 65535 = x % 65536 :=
  bits_mask .i64 62 (by decide) (fun n h0 h1 => by rw [IntKind.wrap_i64]; omega) 16 (by decide) x h0 h1
theorem or8 {x y : Int} (h0 : 0 ≤ x) (h1 : x ≤ 255) (h2 : 0 ≤ y) (h3 : y ≤ 255) : Go.bits .or .i64 (x * 256) y = x * 256 + y :=
  bits_join .i64 31 (by decide) (fun n h0 h1 => by rw [IntKind.wrap_i64]; omega) 8 (x * 256) y (by omega) (by omega) (by omega) h2 (by omega) (by omega)
theorem fold_base (k : Nat) {n : Int} (h0 : 0 ≤ n) (h1 : n ≤ 65535) : inet_fold.l0 (k + 1) n = some (F n) := by
  rw [inet_fold.l0, if_neg (by omega), F_small h0 h1]
theorem fold_step (k : Nat) {n : Int} (h0 : 65535 < n) (h1 : n ≤ 281474976710656) : inet_fold.l0 (k + 1) n = inet_fold.l0 k (n / 65536 + n % 65536) := by
  rw [inet_fold.l0, if_pos h0, and16 (by omega) (by omega), wrap64_id (by omega) (by omega)]
theorem fold_up {b c : Int} {j : Nat} (hb : ∀ k n, 0 ≤ n → n ≤ b → inet_fold.l0 (k + j) n = some (F n)) (hc : c ≤ 281474976710656)
    (hs : ∀ n : Int, 65535 < n → n ≤ c → n / 65536 + n % 65536 ≤ b) : ∀ k n, 0 ≤ n → n ≤ c → inet_fold.l0 (k + (j + 1)) n = some (F n) := by
  intro k n h0 h1
  by_cases h : n ≤ 65535
  · exact fold_base (k + j) h0 h
  · rw [show k + (j + 1) = (k + j) + 1 by omega, fold_step _ (by omega) (by omega), hb k _ (by omega) (hs n (by omega) h1), F_step (by omega)]
theorem fold_eq (k : Nat) {n : Int} (hk : 4 ≤ k) (h0 : 0 ≤ n) (h1 : n ≤ 140737488355328) : inet_fold.f k n = some (F n) := by
  have a1 := fold_up (b := 65535) (c := 131070) (j := 1) (fun k n h0 h1 => fold_base k h0 h1) (by decide) (fun n _ _ => by omega)
  have a2 := fold_up (c := 4294967295) a1 (by decide) (fun n _ _ => by omega)
  have a3 := fold_up (c := 140737488355328) a2 (by decide) (fun n _ _ => by omega)
  have := a3 (k - 4) n h0 h1
  rw [show k - 4 + (1 + 1 + 1 + 1) = k by omega] at this
  exact this
theorem Fold_loop (xs : List Int) (ho : Oct xs) (hl : xs.length ≤ 1000000) (d : Nat) : ∀ (k i : Nat) (n : Int), i + d = xs.length → d + 5 ≤ k → 0 ≤ n → n ≤ 65280 * (i : Int) →
    inet_Fold.l0 k n xs (xs.length : Int) (i : Int) = some (F (n + S (par true i) (xs.drop i))) := by
  induction d with
  | zero =>
    intro k i n hi hk h0 h1
    obtain ⟨k, rfl⟩ : ∃ m, k = m + 1 := ⟨k - 1, by omega⟩
    rw [inet_Fold.l0, if_neg (by omega), List.drop_of_length_le (by omega), fold_eq k (by omega) h0 (by omega)]
    cases par true i <;> simp [S]
  | succ d ih =>
    intro k i n hi hk h0 h1
    obtain ⟨k, rfl⟩ : ∃ m, k = m + 1 := ⟨k - 1, by omega⟩
    have hx := ho.getD i
    have hr : rd xs (i : Int) = xs.getD i 0 := rfl
    have hd : xs.drop i = xs.getD i 0 :: xs.drop (i + 1) := by
      rw [List.drop_eq_getElem_cons (by omega : i < xs.length), List.getD_eq_getElem?_getD, List.getElem?_eq_getElem (by omega : i < xs.length)]; rfl
    have hp : par true (i + 1) = !(par true i) := by rw [← par_succ]; unfold par; split <;> rfl
    have e1 : ((i : Int) + 1) = ((i + 1 : Nat) : Int) := by omega
    rw [inet_Fold.l0, if_pos (by omega), if_pos (by omega), if_pos (by omega), hr, hd, wrap64_id (x := xs.getD i 0) (by omega) (by omega), wrap64_id (x := (i : Int) + 1) (by omega) (by omega), e1, Int.tmod_eq_emod_of_nonneg (by omega)]
    by_cases c : (i : Int) % 2 = 0
    · have hq : par true i = true := by rw [par_of]; exact decide_eq_true (by omega)
      rw [if_pos c, wrap64_id (x := xs.getD i 0 * 256) (by omega) (by omega), wrap64_id (by omega) (by omega), ih k (i + 1) _ (by omega) (by omega) (by omega) (by omega), hp, hq, S]
      simp only [Bool.not_true]
      congr 2; omega
    · have hq : par true i = false := by rw [par_of]; exact decide_eq_false (by omega)
      rw [if_neg c, wrap64_id (by omega) (by omega), ih k (i + 1) _ (by omega) (by omega) (by omega) (by omega), hp, hq, S]
      simp only [Bool.not_false]
      congr 2; omega
theorem Fold_eq (k : Nat) (xs : List Int) (ho : Oct xs) (hl : xs.length ≤ 1000000) (hk : xs.length + 5 ≤ k) : inet_Fold.f k xs = some (F (S true xs)) := by
  unfold inet_Fold.f
  have := Fold_loop xs ho hl xs.length k 0 0 (by omega) hk (by omega) (by omega)
  rw [par_zero, List.drop_zero, Int.zero_add] at this
  exact this

theorem sure_eq (k : Nat) (hk : 8 ≤ k) : packthreadkeep_inetSure.f k = some true := by
  unfold packthreadkeep_inetSure.f
  rw [Fold_eq k [1, 2, 3] (by intro x hx; simp at hx; omega) (by simp) (by simp; omega)]
  rw [show S true [1, 2, 3] = 1026 by simp [S]]
  rfl

theorem Sum_eq (k : Nat) (xs : List Int) (ho : Oct xs) (hl : xs.length ≤ 1000000) (hk : xs.length + 5 ≤ k) : inet_Sum.f k xs = some (65535 - F (S true xs)) := by
  have := F_range (S true xs)
  unfold inet_Sum.f
  rw [Fold_eq k xs ho hl hk]
  simp only [Option.bind_some]
  rw [wrap64_id (by omega) (by omega)]

theorem bad3 (k : Nat) (a b c : Int) (h0 : 0 ≤ a) (h1 : a ≤ 65535) (h2 : 0 ≤ b) (h3 : b ≤ 65535) (h4 : 0 ≤ c) (h5 : c ≤ 65535) : inet_bad.f (k + 4) [a, b, c] = some false := by
  have e : rd [a, b, c] 0 = a := rfl
  have e1 : rd [a, b, c] 1 = b := rfl
  have e2 : rd [a, b, c] 2 = c := rfl
  have w : wrap64 (0 + 1) = 1 := wrap64_id (x := 0 + 1) (by decide) (by decide)
  have w1 : wrap64 (1 + 1) = 2 := wrap64_id (x := 1 + 1) (by decide) (by decide)
  have w2 : wrap64 (2 + 1) = 3 := wrap64_id (x := 2 + 1) (by decide) (by decide)
  unfold inet_bad.f
  show inet_bad.l0 (k + 4) [a, b, c] 3 0 = some false
  rw [inet_bad.l0, if_pos (by decide), if_pos (by decide), if_pos (by simp), e, if_neg (by omega), if_neg (by omega), w]
  rw [inet_bad.l0, if_pos (by decide), if_pos (by decide), if_pos (by simp), e1, if_neg (by omega), if_neg (by omega), w1]
  rw [inet_bad.l0, if_pos (by decide), if_pos (by decide), if_pos (by simp), e2, if_neg (by omega), if_neg (by omega), w2]
  rw [inet_bad.l0, if_neg (by decide)]
theorem update_eq (k : Nat) (a b c : Int) (hk : 8 ≤ k) (h0 : 0 ≤ a) (h1 : a ≤ 65535) (h2 : 0 ≤ b) (h3 : b ≤ 65535) (h4 : 0 ≤ c) (h5 : c ≤ 65535) :
    inet_Update.f k a b c = some (65535 - F (65535 - a + 65535 - b + c), 0) := by
  obtain ⟨k, rfl⟩ : ∃ m, k = m + 4 := ⟨k - 4, by omega⟩
  have := F_range (65535 - a + 65535 - b + c)
  unfold inet_Update.f
  rw [bad3 k a b c h0 h1 h2 h3 h4 h5]
  simp only [Option.bind_some]
  rw [if_neg (by decide), wrap64_id (x := 65535 - a) (by omega) (by omega), wrap64_id (x := 65535 - a + 65535) (by omega) (by omega), wrap64_id (x := 65535 - a + 65535 - b) (by omega) (by omega), wrap64_id (x := 65535 - a + 65535 - b + c) (by omega) (by omega), fold_eq _ (by omega) (by omega) (by omega)]
  simp only [Option.bind_some]
  rw [wrap64_id (by omega) (by omega)]

/-- YOURS -/
theorem InetUpdated : packthreadkeep_InetUpdated.Pure := by
  intro l0 a1 a2 _ _ h _ _
  have ho0 := oct_of h
  obtain ⟨k, hk⟩ : ∃ k, 1000 ≤ k := ⟨1000, Nat.le_refl _⟩
  refine ⟨k, ?_⟩
  unfold packthreadkeep_InetUpdated.f
  rw [octets_eq l0 600 600 rfl (by decide)]
  repeat rw [Option.bind_some]
  have ht : (l0.take 600).length ≤ 600 := by rw [List.length_take]; omega
  have hox0 : Oct (l0.take 600) := ho0.take 600
  generalize l0.take 600 = x0 at *
  rw [if_pos (by simp; omega)]
  have ho : Oct (x0 ++ [1, 2]) := hox0.append (by intro y hy; simp at hy; omega)
  have hS2 : S true (x0 ++ [1, 2]) > 0 := by
    have h1 := S_range x0 true hox0
    rw [S_append]
    cases par true x0.length <;> simp only [S] <;> omega
  have hl : (x0 ++ [1, 2]).length ≤ 602 := by simp; omega
  have hl2 : 2 ≤ (x0 ++ [1, 2]).length := by simp
  generalize x0 ++ [1, 2] = x at *
  rw [wrap64_id (x := (x.length : Int) / 2) (by omega) (by omega), picked_eq _ _ (by omega) (by omega), Option.bind_some, picked_eq _ _ (by decide) (by decide)]
  repeat rw [Option.bind_some]
  have hj0 : 0 ≤ a1 % ((x.length : Int) / 2) := Int.emod_nonneg _ (by omega)
  have hj1 : a1 % ((x.length : Int) / 2) < (x.length : Int) / 2 := Int.emod_lt_of_pos _ (by omega)
  obtain ⟨j, hj⟩ : ∃ j : Nat, a1 % ((x.length : Int) / 2) = j := ⟨_, (Int.toNat_of_nonneg hj0).symm⟩
  have hv0 : 0 ≤ a2 % 65536 ∧ a2 % 65536 < 65536 := by omega
  generalize a2 % 65536 = v at *
  rw [hj] at hj0 hj1 ⊢
  have ht0 : ((j : Int) * 2).toNat = 2 * j := by omega
  have ht1 : ((j : Int) * 2 + 1).toNat = 2 * j + 1 := by omega
  have r0 : rd x ((j : Int) * 2) = x.getD (2 * j) 0 := by unfold rd; rw [ht0]
  have r1 : rd x ((j : Int) * 2 + 1) = x.getD (2 * j + 1) 0 := by unfold rd; rw [ht1]
  have hb0 := ho.getD (2 * j)
  have hb1 := ho.getD (2 * j + 1)
  rw [if_pos (by simp; omega), List.nil_append, wrap64_id (x := (j : Int) * 2) (by omega) (by omega), wrap64_id (x := (j : Int) * 2 + 1) (by omega) (by omega), if_pos (by omega), if_pos (by omega), if_pos (by omega), if_pos (by omega), r0, r1, ht0, ht1,
    Sum_eq k x ho (by omega) (by omega)]
  repeat rw [Option.bind_some]
  rw [if_pos (by omega), if_pos (by omega), wrap64_id (x := x.getD (2 * j) 0) (by omega) (by omega), wrap64_id (x := x.getD (2 * j + 1) 0) (by omega) (by omega), wrap64_id (x := x.getD (2 * j) 0 * 256) (by omega) (by omega), or8 hb0.1 hb0.2 hb1.1 hb1.2]
  have hF := F_range (S true x)
  have hp := S_put x j v (by omega) (by omega) (by omega)
  have hw := S_word x ho j (by omega)
  rw [update_eq k _ _ _ (by omega) (by omega) (by omega) (by omega) (by omega) (by omega) (by omega), Option.bind_some, sure_eq k (by omega), Option.bind_some, if_pos rfl, if_pos rfl]
  have hoy : Oct ((x.set (2 * j) (v / 256 % 256)).set (2 * j + 1) (v % 256)) := (ho.set _ _ (by omega) (by omega)).set _ _ (by omega) (by omega)
  rw [Sum_eq k _ hoy (by simp; omega) (by simp; omega)]
  repeat rw [Option.bind_some]
  by_cases hz : S true ((x.set (2 * j) (v / 256 % 256)).set (2 * j + 1) (v % 256)) = 0
  · rw [Fold_eq k _ hoy (by simp; omega) (by simp; omega), hz, show F 0 = 0 from rfl]
    generalize 65535 - F (65535 - (65535 - F (S true x)) + 65535 - (x.getD (2 * j) 0 * 256 + x.getD (2 * j + 1) 0) + v) = u
    by_cases c : u = 65535 - 0
    · rw [if_pos c]
    · rw [if_neg c]; rfl
  · have hwas : x.getD (2 * j) 0 * 256 + x.getD (2 * j + 1) 0 ≤ 65535 := by omega
    rw [hp] at hz ⊢
    generalize x.getD (2 * j) 0 * 256 + x.getD (2 * j + 1) 0 = was at *
    have e := F_pos (show S true x ≠ 0 by omega)
    have : F (65535 - (65535 - F (S true x)) + 65535 - was + v) = F (S true x - was + v) :=
      F_congr (by omega) (by omega) hz
    rw [this, if_pos rfl]

end Go.Proofs.Ytfckgffeoepaaaa.Pure
