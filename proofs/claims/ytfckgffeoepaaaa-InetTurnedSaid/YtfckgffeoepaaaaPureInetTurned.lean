/- Proved: for every input the law InetTurned answers true: in whatever order the numbers stand the fold is the same, and a number that is another one gives another fold, but 0 and 65535. Condition: none (every list of bytes, all integers). -/
import Derived.Test.YtfckgffeoepaaaaPInetTurnedx2
namespace Go.Proofs.Ytfckgffeoepaaaa.Pure
open Go.RowKit Go.Proofs.Ytfckgffeoepaaaa.PInetTurned Go.Proofs.YtfckgffeoepaaaaW.PrintWords Go.Proofs.YtfckgffeoepaaaaW.PrintLast
set_option linter.unusedVariables false

theorem wrap64_id {x : Int} (h0 : -9223372036854775808 ≤ x) (h1 : x ≤ 9223372036854775807) : wrap64 x = x := by unfold wrap64; omega

theorem picked_eq (a n : Int) (h0 : 0 < n) (h1 : n ≤ 1000000000000) : packthreadkeep_Picked.f a n = some (a % n) := by
  unfold packthreadkeep_Picked.f
  rw [if_neg (by omega)]
  have hm := Int.tmod_eq_emod (a := a) (b := n)
  have hlo := Int.emod_nonneg a (show n ≠ 0 by omega)
  have hhi := Int.emod_lt_of_pos a h0
  by_cases hc : 0 ≤ a ∨ n ∣ a
  · rw [if_pos hc] at hm
    have e : a.tmod n = a % n := by rw [hm]; simp
    rw [e, if_neg (by omega)]
  · rw [if_neg hc] at hm
    have e : a.tmod n = a % n - n := by rw [hm]; congr 1; omega
    rw [e, if_pos (by omega), wrap64_id (by omega) (by omega)]
    congr 1; omega

def Oct (l : List Int) : Prop := ∀ x ∈ l, 0 ≤ x ∧ x ≤ 255
theorem oct_of {l : List Int} (h : ∀ x ∈ l, (Lit.int .u8 x).wf = true) : Oct l := fun x hx => by
  have := h x hx
  simp [Lit.wf, IntKind.min, IntKind.max, IntKind.signed, IntKind.bits] at this
  omega
theorem Oct.take {l : List Int} (h : Oct l) (n : Nat) : Oct (l.take n) := fun x hx => h x (List.mem_of_mem_take hx)
theorem Oct.append {a b : List Int} (h : Oct a) (g : Oct b) : Oct (a ++ b) := fun x hx => by
  rcases List.mem_append.1 hx with h1 | h1
  · exact h x h1
  · exact g x h1
theorem Oct.set {l : List Int} (h : Oct l) (i : Nat) (v : Int) (h0 : 0 ≤ v) (h1 : v ≤ 255) : Oct (l.set i v) := fun x hx => by
  rcases List.mem_or_eq_of_mem_set hx with h2 | h2
  · exact h x h2
  · subst h2; exact ⟨h0, h1⟩
theorem Oct.getD {l : List Int} (h : Oct l) (i : Nat) : 0 ≤ l.getD i 0 ∧ l.getD i 0 ≤ 255 := by
  by_cases c : i < l.length
  · rw [List.getD_eq_getElem?_getD, List.getElem?_eq_getElem c]; exact h _ (List.getElem_mem c)
  · rw [List.getD_eq_getElem?_getD, List.getElem?_eq_none (by omega)]; simp
theorem octets_eq (l : List Int) (n : Int) (m : Nat) (hm : n = (m : Int)) (hn : m ≤ 1000000) : packthreadkeep_Octets.f l n = some (l.take m) := by
  subst hm
  have e : (mn (l.length : Int) m).toNat = min l.length m := by unfold mn; split <;> omega
  have e0 : 0 ≤ mn (l.length : Int) m := by unfold mn; split <;> omega
  have e1 : mn (l.length : Int) m ≤ l.length := by unfold mn; split <;> omega
  unfold packthreadkeep_Octets.f
  rw [if_pos e0, if_pos e1, e, if_pos (by rw [List.length_take, List.length_nil]; omega), List.nil_append]
  congr 1
  by_cases c : l.length ≤ m
  · rw [Nat.min_eq_left c, List.take_length, List.take_of_length_le c]
  · rw [Nat.min_eq_right (by omega)]

/-- The sum of pairs, from an even place on (true) or from an odd one. -/
def S : Bool → List Int → Int
  | _, [] => 0
  | true, x :: r => 256 * x + S false r
  | false, x :: r => x + S true r
theorem S_t (x : Int) (r : List Int) : S true (x :: r) = 256 * x + S false r := rfl
theorem S_f (x : Int) (r : List Int) : S false (x :: r) = x + S true r := rfl
/-- A number, folded. -/
def F (n : Int) : Int := if n = 0 then 0 else (n - 1) % 65535 + 1
theorem F_range (n : Int) : 0 ≤ F n ∧ F n ≤ 65535 := by unfold F; split <;> omega
theorem F_small {n : Int} (h0 : 0 ≤ n) (h1 : n ≤ 65535) : F n = n := by unfold F; split <;> omega
theorem F_pos {n : Int} (h : n ≠ 0) : F n = (n - 1) % 65535 + 1 := by unfold F; rw [if_neg h]
theorem F_congr {a b : Int} (h : (a - b) % 65535 = 0) (ha : a ≠ 0) (hb : b ≠ 0) : F a = F b := by rw [F_pos ha, F_pos hb]; omega
theorem F_step {n : Int} (h : 65535 < n) : F (n / 65536 + n % 65536) = F n := F_congr (by omega) (by omega) (by omega)
theorem S_range : ∀ (l : List Int) (p : Bool), Oct l → 0 ≤ S p l ∧ S p l ≤ 65280 * (l.length : Int)
  | [], p, _ => by cases p <;> simp [S]
  | x :: r, p, h => by
    have hx := h x (List.mem_cons_self ..)
    have hr : Oct r := fun y hy => h y (List.mem_cons_of_mem _ hy)
    have h1 := S_range r true hr
    have h2 := S_range r false hr
    cases p <;> simp only [S, List.length_cons] <;> omega
/-- What parity follows so many bytes. -/
def par (p : Bool) (n : Nat) : Bool := if n % 2 = 0 then p else !p
theorem par_of (i : Nat) : par true i = decide (i % 2 = 0) := by
  unfold par
  by_cases h : i % 2 = 0
  · rw [if_pos h, decide_eq_true h]
  · rw [if_neg h, decide_eq_false h]; rfl
theorem par_zero (p : Bool) : par p 0 = p := rfl
theorem par_succ (p : Bool) (n : Nat) : par (!p) n = par p (n + 1) := by
  unfold par
  rcases Nat.mod_two_eq_zero_or_one n with h | h
  · rw [if_pos h, if_neg (by omega)]
  · rw [if_neg (by omega), if_pos (by omega), Bool.not_not]
theorem S_append : ∀ (a b : List Int) (p : Bool), S p (a ++ b) = S p a + S (par p a.length) b
  | [], b, p => by cases p <;> simp [S, par_zero]
  | x :: r, b, true => by
    rw [List.cons_append, S_t, S_t, S_append r b false, List.length_cons, ← par_succ]; simp only [Bool.not_true]; omega
  | x :: r, b, false => by
    rw [List.cons_append, S_f, S_f, S_append r b true, List.length_cons, ← par_succ]; simp only [Bool.not_false]; omega
def wt (p : Bool) (i : Nat) : Int := if par p i = true then 256 else 1
theorem wt_succ (p : Bool) (i : Nat) : wt p (i + 1) = wt (!p) i := by unfold wt; rw [par_succ]
theorem S_set (l : List Int) : ∀ (i : Nat) (v : Int) (p : Bool), i < l.length → S p (l.set i v) = S p l + wt p i * (v - l.getD i 0) := by
  induction l with
  | nil => intro i v p h; simp at h
  | cons x r ih =>
    intro i v p h
    cases i with
    | zero =>
      rw [List.set_cons_zero, List.getD_cons_zero]
      cases p
      · have e : wt false 0 = 1 := rfl
        rw [S_f, S_f, e]; omega
      · have e : wt true 0 = 256 := rfl
        rw [S_t, S_t, e]; omega
    | succ i =>
      have h' : i < r.length := by simpa using h
      rw [List.set_cons_succ, List.getD_cons_succ, wt_succ]
      cases p
      · rw [S_f, S_f, ih i v true h', Bool.not_false]
        generalize wt true i * (v - r.getD i 0) = z
        omega
      · rw [S_t, S_t, ih i v false h', Bool.not_true]
        generalize wt false i * (v - r.getD i 0) = z
        omega

/-- A place of two bytes is changed. -/
theorem S_put (x : List Int) (j : Nat) (v : Int) (h : 2 * j + 1 < x.length) (h0 : 0 ≤ v) (h1 : v ≤ 65535) :
    S true ((x.set (2 * j) (v / 256 % 256)).set (2 * j + 1) (v % 256)) = S true x - (x.getD (2 * j) 0 * 256 + x.getD (2 * j + 1) 0) + v := by
  have e0 : wt true (2 * j) = 256 := by unfold wt; rw [par_of, decide_eq_true (by omega)]; rfl
  have e1 : wt true (2 * j + 1) = 1 := by unfold wt; rw [par_of, decide_eq_false (by omega)]; rfl
  have g : (x.set (2 * j) (v / 256 % 256)).getD (2 * j + 1) 0 = x.getD (2 * j + 1) 0 := by
    simp [List.getD_eq_getElem?_getD]
  rw [S_set _ _ _ _ (by rw [List.length_set]; omega), S_set _ _ _ _ (by omega), e0, e1, g]
  generalize x.getD (2 * j) 0 = p
  generalize x.getD (2 * j + 1) 0 = q
  omega
theorem S_word (x : List Int) (ho : Oct x) (j : Nat) (h : 2 * j + 1 < x.length) : x.getD (2 * j) 0 * 256 + x.getD (2 * j + 1) 0 ≤ S true x := by
  have h3 := S_put x j 0 h (by decide) (by decide)
  have ho2 : Oct ((x.set (2 * j) (0 / 256 % 256)).set (2 * j + 1) (0 % 256)) := (ho.set _ _ (by decide) (by decide)).set _ _ (by decide) (by decide)
  have h4 := S_range _ true ho2
  omega

theorem and16 {x : Int} (h0 : 0 ≤ x) (h1 : x < 2 ^ 62) : Go.bits .and .i64 x 65535 = x % 65536 :=
  bits_mask .i64 62 (by decide) (fun n h0 h1 => by rw [IntKind.wrap_i64]; omega) 16 (by decide) x h0 h1
theorem or8 {x y : Int} (h0 : 0 ≤ x) (h1 : x ≤ 255) (h2 : 0 ≤ y) (h3 : y ≤ 255) : Go.bits .or .i64 (x * 256) y = x * 256 + y :=
  bits_join .i64 31 (by decide) (fun n h0 h1 => by rw [IntKind.wrap_i64]; omega) 8 (x * 256) y (by omega) (by omega) (by omega) h2 (by omega) (by omega)
theorem fold_base (k : Nat) {n : Int} (h0 : 0 ≤ n) (h1 : n ≤ 65535) : inet_fold.l0 (k + 1) n = some (F n) := by
  rw [inet_fold.l0, if_neg (by omega), F_small h0 h1]
theorem fold_step (k : Nat) {n : Int} (h0 : 65535 < n) (h1 : n ≤ 281474976710656) : inet_fold.l0 (k + 1) n = inet_fold.l0 k (n / 65536 + n % 65536) := by
  rw [inet_fold.l0, if_pos h0, and16 (by omega) (by omega), wrap64_id (by omega) (by omega)]
theorem fold_up {b c : Int} {j : Nat} (hb : ∀ k n, 0 ≤ n → n ≤ b → inet_fold.l0 (k + j) n = some (F n)) (hc : c ≤ 281474976710656)
    (hs : ∀ n : Int, 65535 < n → n ≤ c → n / 65536 + n % 65536 ≤ b) : ∀ k n, 0 ≤ n → n ≤ c → inet_fold.l0 (k + (j + 1)) n = some (F n) := by
  intro k n h0 h1
  by_cases h : n ≤ 65535
  · exact fold_base (k + j) h0 h
  · rw [show k + (j + 1) = (k + j) + 1 by omega, fold_step _ (by omega) (by omega), hb k _ (by omega) (hs n (by omega) h1), F_step (by omega)]
theorem fold_eq (k : Nat) {n : Int} (hk : 4 ≤ k) (h0 : 0 ≤ n) (h1 : n ≤ 140737488355328) : inet_fold.f k n = some (F n) := by
  have a1 := fold_up (b := 65535) (c := 131070) (j := 1) (fun k n h0 h1 => fold_base k h0 h1) (by decide) (fun n _ _ => by omega)
  have a2 := fold_up (c := 4294967295) a1 (by decide) (fun n _ _ => by omega)
  have a3 := fold_up (c := 140737488355328) a2 (by decide) (fun n _ _ => by omega)
  have := a3 (k - 4) n h0 h1
  rw [show k - 4 + (1 + 1 + 1 + 1) = k by omega] at this
  exact this
theorem Fold_loop (xs : List Int) (ho : Oct xs) (hl : xs.length ≤ 1000000) (d : Nat) : ∀ (k i : Nat) (n : Int), i + d = xs.length → d + 5 ≤ k → 0 ≤ n → n ≤ 65280 * (i : Int) →
    inet_Fold.l0 k n xs (xs.length : Int) (i : Int) = some (F (n + S (par true i) (xs.drop i))) := by
  induction d with
  | zero =>
    intro k i n hi hk h0 h1
    obtain ⟨k, rfl⟩ : ∃ m, k = m + 1 := ⟨k - 1, by omega⟩
    rw [inet_Fold.l0, if_neg (by omega), List.drop_of_length_le (by omega), fold_eq k (by omega) h0 (by omega)]
    cases par true i <;> simp [S]
  | succ d ih =>
    intro k i n hi hk h0 h1
    obtain ⟨k, rfl⟩ : ∃ m, k = m + 1 := ⟨k - 1, by omega⟩
    have hx := ho.getD i
    have hr : rd xs (i : Int) = xs.getD i 0 := rfl
    have hd : xs.drop i = xs.getD i 0 :: xs.drop (i + 1) := by
      rw [List.drop_eq_getElem_cons (by omega : i < xs.length), List.getD_eq_getElem?_getD, List.getElem?_eq_getElem (by omega : i < xs.length)]; rfl
    have hp : par true (i + 1) = !(par true i) := by rw [← par_succ]; unfold par; split <;> rfl
    have e1 : ((i : Int) + 1) = ((i + 1 : Nat) : Int) := by omega
    rw [inet_Fold.l0, if_pos (by omega), if_pos (by omega), if_pos (by omega), hr, hd, wrap64_id (x := xs.getD i 0) (by omega) (by omega), wrap64_id (x := (i : Int) + 1) (by omega) (by omega), e1, Int.tmod_eq_emod_of_nonneg (by omega)]
    by_cases c : (i : Int) % 2 = 0
    · have hq : par true i = true := by rw [par_of]; exact decide_eq_true (by omega)
      rw [if_pos c, wrap64_id (x := xs.getD i 0 * 256) (by omega) (by omega), wrap64_id (by omega) (by omega), ih k (i + 1) _ (by omega) (by omega) (by omega) (by omega), hp, hq, S]
      simp only [Bool.not_true]
      congr 2; omega
    · have hq : par true i = false := by rw [par_of]; exact decide_eq_false (by omega)
      rw [if_neg c, wrap64_id (by omega) (by omega), ih k (i + 1) _ (by omega) (by omega) (by omega) (by omega), hp, hq, S]
      simp only [Bool.not_false]
      congr 2; omega
theorem Fold_eq (k : Nat) (xs : List Int) (ho : Oct xs) (hl : xs.length ≤ 1000000) (hk : xs.length + 5 ≤ k) : inet_Fold.f k xs = some (F (S true xs)) := by
  unfold inet_Fold.f
  have := Fold_loop xs ho hl xs.length k 0 0 (by omega) hk (by omega) (by omega)
  rw [par_zero, List.drop_zero, Int.zero_add] at this
  exact this

theorem sure_eq (k : Nat) (hk : 8 ≤ k) : packthreadkeep_inetSure.f k = some true := by
  unfold packthreadkeep_inetSure.f
  rw [Fold_eq k [1, 2, 3] (by intro x hx; simp at hx; omega) (by simp) (by simp; omega)]
  rw [show S true [1, 2, 3] = 1026 by simp [S]]
  rfl

def sumTo (f : Nat → Int) : Nat → Int
  | 0 => 0
  | n + 1 => sumTo f n + f n
theorem sumTo_add (f : Nat → Int) (a : Nat) : ∀ b, sumTo f (a + b) = sumTo f a + sumTo (fun j => f (a + j)) b
  | 0 => by simp [sumTo]
  | b + 1 => by rw [← Nat.add_assoc, sumTo, sumTo_add f a b, sumTo]; omega
theorem sumTo_ext (f g : Nat → Int) : ∀ n, (∀ j, j < n → f j = g j) → sumTo f n = sumTo g n
  | 0, _ => rfl
  | n + 1, h => by rw [sumTo, sumTo, sumTo_ext f g n (fun j hj => h j (by omega)), h n (by omega)]
/-- Round a ring the sum is the same. -/
theorem sumTo_turn (f : Nat → Int) (n t : Nat) (ht : t < n) : sumTo (fun j => f ((j + t) % n)) n = sumTo f n := by
  obtain ⟨d, rfl⟩ : ∃ d, n = d + t := ⟨n - t, by omega⟩
  rw [sumTo_add (fun j => f ((j + t) % (d + t))) d t, Nat.add_comm d t, sumTo_add f t d,
    sumTo_ext (fun j => f ((j + t) % (t + d))) (fun j => f (t + j)) d (fun j hj => by show f _ = f _; rw [Nat.mod_eq_of_lt (by omega)]; congr 1; omega),
    sumTo_ext (fun j => f ((d + j + t) % (t + d))) f t (fun j hj => by show f _ = f _; rw [show d + j + t = j + (t + d) by omega, Nat.add_mod_right, Nat.mod_eq_of_lt (by omega)])]
  omega
def word (x : List Int) (j : Nat) : Int := x.getD (2 * j) 0 * 256 + x.getD (2 * j + 1) 0
theorem S_words (x : List Int) (n : Nat) (h : x.length = 2 * n) : S true x = sumTo (word x) n := by
  have : ∀ i, i ≤ n → S true (x.take (2 * i)) = sumTo (word x) i := by
    intro i
    induction i with
    | zero => intro _; simp [S, sumTo]
    | succ i ih =>
      intro hi
      have e : x.take (2 * (i + 1)) = x.take (2 * i) ++ [x.getD (2 * i) 0, x.getD (2 * i + 1) 0] := by
        rw [show 2 * (i + 1) = 2 * i + 1 + 1 by omega, List.take_succ_eq_append_getElem (by omega : 2 * i + 1 < x.length), List.take_succ_eq_append_getElem (by omega : 2 * i < x.length)]
        have g0 : x.getD (2 * i) 0 = x[2 * i] := by simp [List.getD_eq_getElem?_getD, List.getElem?_eq_getElem (by omega : 2 * i < x.length)]
        have g1 : x.getD (2 * i + 1) 0 = x[2 * i + 1] := by simp [List.getD_eq_getElem?_getD, List.getElem?_eq_getElem (by omega : 2 * i + 1 < x.length)]
        rw [g0, g1, List.append_assoc]; rfl
      have hp : par true (x.take (2 * i)).length = true := by rw [par_of, List.length_take]; exact decide_eq_true (by omega)
      rw [e, S_append, hp, ih (by omega), sumTo, S_t, S_f]
      unfold word
      simp only [S]
      omega
  have h2 := this n (Nat.le_refl n)
  rw [← h2, ← h, List.take_length]
theorem last (k : Nat) (x y : List Int) (hk : 1000 ≤ k) (ho : Oct x) (hoy : Oct y) (hl : x.length ≤ 700) (hly : y.length ≤ 700) (hxy : S true y = S true x) (hS : 0 < S true x)
    (z : List Int) (hoz : Oct z) (hlz : z.length ≤ 700) (b : Bool) (h1 : b = true → F (S true z) = F (S true x) ∨ F (S true z) = 0) (h2 : b = false → F (S true z) ≠ F (S true x)) :
    packthreadkeep_InetTurned.j1 (k + 1) x y z b = some true := by
  rw [packthreadkeep_InetTurned.j1, Fold_eq k z hoz (by omega) (by omega), Option.bind_some, Fold_eq k x ho (by omega) (by omega), Option.bind_some, sure_eq k (by omega), Option.bind_some, if_pos rfl, Option.bind_some, Fold_eq k y hoy (by omega) (by omega), Option.bind_some, hxy, if_pos rfl]
  cases b with
  | true =>
    by_cases c : F (S true z) = F (S true x)
    · rw [if_pos (by rw [c]; simp)]
    · have h0 : F (S true z) = 0 := (h1 rfl).resolve_left c
      rw [if_neg (by rw [beq_eq_false_iff_ne.mpr c]; decide), if_pos rfl, Option.bind_some, Option.bind_some, h0, Int.mul_zero, wrap64_id (by decide) (by decide)]
      rfl
  | false => rw [if_pos (by rw [beq_eq_false_iff_ne.mpr (h2 rfl)]; rfl)]
theorem mod0 {d : Int} (h : d % 65535 = 0) (h1 : -65535 < d) (h2 : d < 65535) : d = 0 := by omega
theorem apart1 {was v : Int} (h0 : 0 ≤ was) (h1 : was ≤ 65535) (h2 : 0 ≤ v) (h3 : v < 65536) (c2 : was + v = 65535) (c3 : ¬ was = 0) (c4 : ¬ v = 0) : (v - was) % 65535 ≠ 0 := by
  intro h
  have := mod0 h (by clear h; omega) (by clear h; omega)
  clear h
  omega
theorem apart2 {was v : Int} (h0 : 0 ≤ was) (h1 : was ≤ 65535) (h2 : 0 ≤ v) (h3 : v < 65536) (c1 : ¬ was = v) (c2 : ¬ was + v = 65535) : (v - was) % 65535 ≠ 0 := by
  intro h
  have := mod0 h (by clear h; omega) (by clear h; omega)
  clear h
  omega
set_option maxHeartbeats 400000 in
theorem ending (k : Nat) (a2 a3 a1 : Int) (x y : List Int) (n : Nat) (hk : 1000 ≤ k) (ho : Oct x) (hoy : Oct y) (hn : x.length = 2 * n) (hn0 : 0 < n) (hl : x.length ≤ 700) (hly : y.length ≤ 700) (hxy : S true y = S true x) (hS : 0 < S true x) :
    packthreadkeep_InetTurned.l0 (k + 2) a1 a2 a3 x n y n = some true := by
  rw [packthreadkeep_InetTurned.l0, if_neg (by omega), picked_eq _ _ (by omega) (by omega), Option.bind_some, picked_eq _ _ (by decide) (by decide), Option.bind_some]
  have hj0 : 0 ≤ a2 % (n : Int) := Int.emod_nonneg _ (by omega)
  have hj1 : a2 % (n : Int) < n := Int.emod_lt_of_pos _ (by omega)
  obtain ⟨j, hj⟩ : ∃ j : Nat, a2 % (n : Int) = j := ⟨_, (Int.toNat_of_nonneg hj0).symm⟩
  have hv0 : 0 ≤ a3 % 65536 ∧ a3 % 65536 < 65536 := by omega
  generalize a3 % 65536 = v at *
  rw [hj] at hj0 hj1 ⊢
  have ht0 : ((j : Int) * 2).toNat = 2 * j := by omega
  have ht1 : ((j : Int) * 2 + 1).toNat = 2 * j + 1 := by omega
  have r0 : rd x ((j : Int) * 2) = x.getD (2 * j) 0 := by unfold rd; rw [ht0]
  have r1 : rd x ((j : Int) * 2 + 1) = x.getD (2 * j + 1) 0 := by unfold rd; rw [ht1]
  have hb0 := ho.getD (2 * j)
  have hb1 := ho.getD (2 * j + 1)
  have hp := S_put x j v (by omega) (by omega) (by omega)
  have hw := S_word x ho j (by omega)
  have hoz : Oct ((x.set (2 * j) (v / 256 % 256)).set (2 * j + 1) (v % 256)) := (ho.set _ _ (by omega) (by omega)).set _ _ (by omega) (by omega)
  have hlz : ((x.set (2 * j) (v / 256 % 256)).set (2 * j + 1) (v % 256)).length ≤ 700 := by simp; omega
  rw [if_pos (by simp; omega), List.nil_append, Option.bind_some, wrap64_id (x := (j : Int) * 2) (by omega) (by omega), wrap64_id (x := (j : Int) * 2 + 1) (by omega) (by omega), if_pos (by omega), if_pos (by omega), if_pos (by omega), if_pos (by omega), r0, r1, ht0, ht1, Option.bind_some, if_pos (by omega), if_pos (by omega),
    wrap64_id (x := x.getD (2 * j) 0) (by omega) (by omega), wrap64_id (x := x.getD (2 * j + 1) 0) (by omega) (by omega), wrap64_id (x := x.getD (2 * j) 0 * 256) (by omega) (by omega), or8 hb0.1 hb0.2 hb1.1 hb1.2]
  have hwas : 0 ≤ x.getD (2 * j) 0 * 256 + x.getD (2 * j + 1) 0 ∧ x.getD (2 * j) 0 * 256 + x.getD (2 * j + 1) 0 ≤ 65535 := by omega
  generalize x.getD (2 * j) 0 * 256 + x.getD (2 * j + 1) 0 = was at *
  generalize hz : (x.set (2 * j) (v / 256 % 256)).set (2 * j + 1) (v % 256) = z at *
  have fin (b : Bool) (h1 : b = true → F (S true z) = F (S true x) ∨ F (S true z) = 0) (h2 : b = false → F (S true z) ≠ F (S true x)) := last k x y hk ho hoy hl hly hxy hS z hoz hlz b h1 h2
  have hFx := F_pos (show S true x ≠ 0 by omega)
  have key : F (S true z) = F (S true x) ∨ F (S true z) = 0 ∨ (v - was) % 65535 ≠ 0 := by
    by_cases e : S true z = 0
    · exact .inr (.inl (by rw [e]; rfl))
    · by_cases e2 : (v - was) % 65535 = 0
      · exact .inl (F_congr (by omega) e (by omega))
      · exact .inr (.inr e2)
  have keyt (e : (v - was) % 65535 = 0) : F (S true z) = F (S true x) ∨ F (S true z) = 0 := by
    rcases key with h | h | h
    · exact .inl h
    · exact .inr h
    · exact absurd e h
  have key2 : (v - was) % 65535 ≠ 0 → F (S true z) ≠ F (S true x) := by
    intro e
    by_cases e0 : S true z = 0
    · rw [e0, show F 0 = 0 from rfl]; omega
    · rw [F_pos e0, hFx]; omega
  by_cases c1 : was = v
  · rw [if_pos c1]
    exact fin true (fun _ => keyt (by omega)) (fun h => by cases h)
  · rw [if_neg c1, wrap64_id (by omega) (by omega)]
    by_cases c2 : was + v = 65535
    · rw [if_pos c2]
      by_cases c3 : was = 0
      · rw [if_pos c3]
        exact fin true (fun _ => keyt (by omega)) (fun h => by cases h)
      · rw [if_neg c3]
        by_cases c4 : v = 0
        · rw [show (v == 0) = true from beq_iff_eq.mpr c4]
          exact fin true (fun _ => keyt (by omega)) (fun h => by cases h)
        · rw [show (v == 0) = false from beq_eq_false_iff_ne.mpr c4]
          exact fin false (fun h => by cases h) (fun _ => key2 (apart1 hwas.1 hwas.2 hv0.1 hv0.2 c2 c3 c4))
    · rw [if_neg c2]
      exact fin false (fun h => by cases h) (fun _ => key2 (apart2 hwas.1 hwas.2 hv0.1 hv0.2 c1 c2))
theorem loop (a1 a2 a3 : Int) (x : List Int) (n t : Nat) (ho : Oct x) (hn : x.length = 2 * n) (hn0 : 0 < n) (hl : x.length ≤ 700) (hS : 0 < S true x) (ht : a1 % (n : Int) = t) (htn : t < n) (d : Nat) :
    ∀ (k i : Nat) (y : List Int), i + d = n → d + 1002 ≤ k → Oct y → y.length = 2 * i → S true y = sumTo (fun j => word x ((j + t) % n)) i → packthreadkeep_InetTurned.l0 k a1 a2 a3 x n y i = some true := by
  induction d with
  | zero =>
    intro k i y hi hk hoy hly hsy
    obtain rfl : i = n := by omega
    obtain ⟨k, rfl⟩ : ∃ m, k = m + 2 := ⟨k - 2, by omega⟩
    exact ending k a2 a3 a1 x y i (by omega) ho hoy hn hn0 hl (by omega) (by rw [hsy, sumTo_turn _ _ _ htn, S_words x i hn]) hS
  | succ d ih =>
    intro k i y hi hk hoy hly hsy
    obtain ⟨k, rfl⟩ : ∃ m, k = m + 1 := ⟨k - 1, by omega⟩
    have hm : (i + t) % n < n := Nat.mod_lt _ hn0
    have em : Int.tmod ((i : Int) + t) n = (((i + t) % n : Nat) : Int) := by rw [Int.tmod_eq_emod_of_nonneg (by omega)]; push_cast; rfl
    generalize hq : (i + t) % n = q at *
    have ht0 : (2 * (q : Int)).toNat = 2 * q := by omega
    have ht1 : (2 * (q : Int) + 1).toNat = 2 * q + 1 := by omega
    have r0 : rd x (2 * (q : Int)) = x.getD (2 * q) 0 := by unfold rd; rw [ht0]
    have r1 : rd x (2 * (q : Int) + 1) = x.getD (2 * q + 1) 0 := by unfold rd; rw [ht1]
    have hb0 := ho.getD (2 * q)
    have hb1 := ho.getD (2 * q + 1)
    have e1 : ((i : Int) + 1) = ((i + 1 : Nat) : Int) := by omega
    rw [packthreadkeep_InetTurned.l0, if_pos (by omega), picked_eq _ _ (by omega) (by omega), Option.bind_some, ht, if_neg (by omega), wrap64_id (x := (i : Int) + t) (by omega) (by omega), em, wrap64_id (x := 2 * (q : Int)) (by omega) (by omega), wrap64_id (x := 2 * (q : Int) + 1) (by omega) (by omega),
      if_pos (by omega), if_pos (by omega), if_pos (by omega), if_pos (by omega), r0, r1, Option.bind_some, if_pos (by simp), Option.bind_some, List.nil_append, if_pos (by simp; omega), wrap64_id (by omega) (by omega), e1]
    refine ih k (i + 1) _ (by omega) (by omega) ?_ (by simp; omega) ?_
    · intro z hz
      simp at hz
      rcases hz with rfl | rfl | hz
      · simpa using hb0
      · simpa using hb1
      · exact hoy z hz
    · rw [List.cons_append, List.cons_append, List.nil_append, S_t, S_f, hsy, sumTo]
      show _ = _ + word x ((i + t) % n)
      rw [hq]; unfold word; omega

/-- YOURS -/
theorem InetTurned : packthreadkeep_InetTurned.Pure := by
  intro l0 a1 a2 a3 _ _ h _ _ _
  have ho0 := oct_of h
  obtain ⟨k, hk⟩ : ∃ k, 2000 ≤ k := ⟨2000, Nat.le_refl _⟩
  refine ⟨k, ?_⟩
  unfold packthreadkeep_InetTurned.f
  rw [octets_eq l0 400 400 rfl (by decide), Option.bind_some, Option.bind_some]
  have ht : (l0.take 400).length ≤ 400 := by rw [List.length_take]; omega
  have hox0 : Oct (l0.take 400) := ho0.take 400
  generalize l0.take 400 = x0 at *
  rw [if_pos (by simp; omega), Option.bind_some]
  have ho1 : Oct (x0 ++ [3, 4]) := hox0.append (by intro y hy; simp at hy; omega)
  have hl1 : (x0 ++ [3, 4]).length = x0.length + 2 := by simp
  obtain ⟨n, hn⟩ : ∃ n, n = (x0.length + 2) / 2 := ⟨_, rfl⟩
  have htake : (wrap64 (((x0 ++ [3, 4]).length : Int) - (((x0 ++ [3, 4]).length : Int) % 2))) = ((2 * n : Nat) : Int) := by rw [hl1, wrap64_id (by omega) (by omega)]; omega
  rw [htake, if_pos (by omega), if_pos (by omega), Option.bind_some, Int.toNat_natCast]
  have hl2 : ((x0 ++ [3, 4]).take (2 * n)).length = 2 * n := by rw [List.length_take]; omega
  have ho2 : Oct ((x0 ++ [3, 4]).take (2 * n)) := ho1.take _
  have hS : 0 < S true ((x0 ++ [3, 4]).take (2 * n)) := by
    have hr := S_range x0 true hox0
    rw [List.take_append, List.take_of_length_le (by omega), S_append]
    obtain e | e : 2 * n - x0.length = 1 ∨ 2 * n - x0.length = 2 := by omega
    · rw [e]; cases par true x0.length <;> simp [S] <;> omega
    · rw [e]; cases par true x0.length <;> simp [S] <;> omega
  generalize (x0 ++ [3, 4]).take (2 * n) = x at *
  have hm0 : 0 ≤ a1 % (n : Int) := Int.emod_nonneg _ (by omega)
  have hm1 : a1 % (n : Int) < n := Int.emod_lt_of_pos _ (by omega)
  obtain ⟨t, hm⟩ : ∃ j : Nat, a1 % (n : Int) = j := ⟨_, (Int.toNat_of_nonneg hm0).symm⟩
  rw [hl2, wrap64_id (by omega) (by omega), show ((2 * n : Nat) : Int) / 2 = (n : Int) by omega]
  exact loop a1 a2 a3 x n t ho2 hl2 (by omega) (by omega) hS hm (by omega) n k 0 [] (by omega) (by omega) (fun _ h => by simp at h) rfl rfl

end Go.Proofs.Ytfckgffeoepaaaa.Pure
