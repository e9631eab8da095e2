/- Proved: for every input the law InetParts answers true: the folds of two parts are joined to the fold of both, also where the first one has an odd number of bytes. Condition: none (all lists of bytes). -/
import Derived.Test.YtfckgffeoepaaabPInetPartsx1
namespace Go.Proofs.Ytfckgffeoepaaab.Pure
open Go.RowKit Go.Proofs.Ytfckgffeoepaaab.PInetParts Go.Proofs.YtfckgffeoepaaabW.PrintWords Go.Proofs.YtfckgffeoepaaabW.PrintLast
set_option linter.unusedVariables false

theorem wrap64_id {x : Int} (h0 : -9223372036854775808 ≤ x) (h1 : x ≤ 9223372036854775807) : wrap64 x = x := by unfold wrap64; omega

def Oct (l : List Int) : Prop := ∀ x ∈ l, 0 ≤ x ∧ x ≤ 255
theorem oct_of {l : List Int} (h : ∀ x ∈ l, (Lit.int .u8 x).wf = true) : Oct l := fun x hx => by
  have := h x hx
  simp [Lit.wf, IntKind.min, IntKind.max, IntKind.signed, IntKind.bits] at this
  omega
theorem Oct.take {l : List Int} (h : Oct l) (n : Nat) : Oct (l.take n) := fun x hx => h x (List.mem_of_mem_take hx)
theorem Oct.append {a b : List Int} (h : Oct a) (g : Oct b) : Oct (a ++ b) := fun x hx => by
  rcases List.mem_append.1 hx with h1 | h1
  · exact h x h1
  · exact g x h1
theorem Oct.set {l : List Int} (h : Oct l) (i : Nat) (v : Int) (h0 : 0 ≤ v) (h1 : v ≤ 255) : Oct (l.set i v) := fun x hx => by
  rcases List.mem_or_eq_of_mem_set hx with h2 | h2
  · exact h x h2
  · subst h2; exact ⟨h0, h1⟩
theorem Oct.getD {l : List Int} (h : Oct l) (i : Nat) : 0 ≤ l.getD i 0 ∧ l.getD i 0 ≤ 255 := by
  by_cases c : i < l.length
  · rw [List.getD_eq_getElem?_getD, List.getElem?_eq_getElem c]; exact h _ (List.getElem_mem c)
  · rw [List.getD_eq_getElem?_getD, List.getElem?_eq_none (by omega)]; simp
theorem octets_eq (l : List Int) (n : Int) (m : Nat) (hm : n = (m : Int)) (hn : m ≤ 1000000) : packthreadkeep_Octets.f l n = some (l.take m) := by
  subst hm
  have e : (mn (l.length : Int) m).toNat = min l.length m := by unfold mn; split <;> omega
  have e0 : 0 ≤ mn (l.length : Int) m := by unfold mn; split <;> omega
  have e1 : mn (l.length : Int) m ≤ l.length := by unfold mn; split <;> omega
  unfold packthreadkeep_Octets.f
  rw [if_pos e0, if_pos e1, e, if_pos (by rw [List.length_take, List.length_nil]; omega), List.nil_append]
  congr 1
  by_cases c : l.length ≤ m
  · rw [Nat.min_eq_left c, List.take_length, List.take_of_length_le c]
  · rw [Nat.min_eq_right (by omega)]

/-- The sum of pairs, from an even place on (true) or from an odd one. -/
def S : Bool → List Int → Int
  | _, [] => 0
  | true, x :: r => 256 * x + S false r
  | false, x :: r => x + S true r
theorem S_t (x : Int) (r : List Int) : S true (x :: r) = 256 * x + S false r := rfl
theorem S_f (x : Int) (r : List Int) : S false (x :: r) = x + S true r := rfl
/-- A number, folded. -/
def F (n : Int) : Int := if n = 0 then 0 else (n - 1) % 65535 + 1
theorem F_range (n : Int) : 0 ≤ F n ∧ F n ≤ 65535 := by unfold F; split <;> omega
theorem F_small {n : Int} (h0 : 0 ≤ n) (h1 : n ≤ 65535) : F n = n := by unfold F; split <;> omega
theorem F_pos {n : Int} (h : n ≠ 0) : F n = (n - 1) % 65535 + 1 := by unfold F; rw [if_neg h]
theorem F_congr {a b : Int} (h : (a - b) % 65535 = 0) (ha : a ≠ 0) (hb : b ≠ 0) : F a = F b := by rw [F_pos ha, F_pos hb]; omega
theorem F_step {n : Int} (h : 65535 < n) : F (n / 65536 + n % 65536) = F n := F_congr (by omega) (by omega) (by omega)
theorem S_range : ∀ (l : List Int) (p : Bool), Oct l → 0 ≤ S p l ∧ S p l ≤ 65280 * (l.length : Int)
  | [], p, _ => by cases p <;> simp [S]
  | x :: r, p, h => by
    have hx := h x (List.mem_cons_self ..)
    have hr : Oct r := fun y hy => h y (List.mem_cons_of_mem _ hy)
    have h1 := S_range r true hr
    have h2 := S_range r false hr
    cases p <;> simp only [S, List.length_cons] <;> omega
/-- What parity follows so many bytes. -/
def par (p : Bool) (n : Nat) : Bool := if n % 2 = 0 then p else !p
theorem par_of (i : Nat) : par true i = decide (i % 2 = 0) := by
  unfold par
  by_cases h : i % 2 = 0
  · rw [if_pos h, decide_eq_true h]
  · rw [if_neg h, decide_eq_false h]; rfl
theorem par_zero (p : Bool) : par p 0 = p := rfl
theorem par_succ (p : Bool) (n : Nat) : par (!p) n = par p (n + 1) := by
  unfold par
  rcases Nat.mod_two_eq_zero_or_one n with h | h
  · rw [if_pos h, if_neg (by omega)]
  · rw [if_neg (by omega), if_pos (by omega), Bool.not_not]
theorem S_append : ∀ (a b : List Int) (p : Bool), S p (a ++ b) = S p a + S (par p a.length) b
  | [], b, p => by cases p <;> simp [S, par_zero]
  | x :: r, b, true => by
    rw [List.cons_append, S_t, S_t, S_append r b false, List.length_cons, ← par_succ]; simp only [Bool.not_true]; omega
  | x :: r, b, false => by
    rw [List.cons_append, S_f, S_f, S_append r b true, List.length_cons, ← par_succ]; simp only [Bool.not_false]; omega
def wt (p : Bool) (i : Nat) : Int := if par p i = true then 256 else 1
theorem wt_succ (p : Bool) (i : Nat) : wt p (i + 1) = wt (!p) i := by unfold wt; rw [par_succ]
theorem S_set (l : List Int) : ∀ (i : Nat) (v : Int) (p : Bool), i < l.length → S p (l.set i v) = S p l + wt p i * (v - l.getD i 0) := by
  induction l with
  | nil => intro i v p h; simp at h
  | cons x r ih =>
    intro i v p h
    cases i with
    | zero =>
      rw [List.set_cons_zero, List.getD_cons_zero]
      cases p
      · have e : wt false 0 = 1 := rfl
        rw [S_f, S_f, e]; omega
      · have e : wt true 0 = 256 := rfl
        rw [S_t, S_t, e]; omega
    | succ i =>
      have h' : i < r.length := by simpa using h
      rw [List.set_cons_succ, List.getD_cons_succ, wt_succ]
      cases p
      · rw [S_f, S_f, ih i v true h', Bool.not_false]
        generalize wt true i * (v - r.getD i 0) = z
        omega
      · rw [S_t, S_t, ih i v false h', Bool.not_true]
        generalize wt false i * (v - r.getD i 0) = z
        omega

theorem sw_fold {p q : Int} (hp : 0 ≤ p) (hq : 0 ≤ q) : F (256 * q + p) = F (256 * p + q) % 256 * 256 + F (256 * p + q) / 256 := by
  by_cases h : 256 * p + q = 0
  · have : p = 0 := by omega
    have : q = 0 := by omega
    subst p q; decide
  · rw [F_pos (show 256 * q + p ≠ 0 by omega), F_pos h]
    have e : (256 * q + p - 65536 * q) % 65535 = (256 * q + p - q) % 65535 := by omega
    omega
theorem S_pq : ∀ l : List Int, Oct l → ∃ p q : Int, 0 ≤ p ∧ 0 ≤ q ∧ S true l = 256 * p + q ∧ S false l = 256 * q + p
  | [], _ => ⟨0, 0, by decide, by decide, rfl, rfl⟩
  | x :: r, h => by
    have hx := h x (List.mem_cons_self ..)
    obtain ⟨p, q, hp, hq, e1, e2⟩ := S_pq r (fun y hy => h y (List.mem_cons_of_mem _ hy))
    exact ⟨x + q, p, by omega, by omega, by rw [S_t, e2]; omega, by rw [S_f, e1]; omega⟩
theorem F_add {a b : Int} (ha : 0 ≤ a) (hb : 0 ≤ b) : F (F a + F b) = F (a + b) := by
  by_cases h : a = 0
  · subst h; rw [show F 0 = 0 from rfl, Int.zero_add, Int.zero_add, F_small (F_range b).1 (F_range b).2]
  · have e := F_pos h
    have hr := F_range b
    by_cases h2 : b = 0
    · subst h2; rw [show F 0 = 0 from rfl, Int.add_zero, Int.add_zero, F_small (F_range a).1 (F_range a).2]
    · have e2 := F_pos h2
      exact F_congr (by omega) (by omega) (by omega)

theorem and16 {x : Int} (h0 : 0 ≤ x) (h1 : x < 2 ^ 62) : Go.bits .and .i64 x 65535 = x % 65536 :=
  bits_mask .i64 62 (by decide) (fun n h0 h1 => by rw [IntKind.wrap_i64]; omega) 16 (by decide) x h0 h1
theorem or8 {x y : Int} (h0 : 0 ≤ x) (h1 : x ≤ 255) (h2 : 0 ≤ y) (h3 : y ≤ 255) : Go.bits .or .i64 (x * 256) y = x * 256 + y :=
  bits_join .i64 31 (by decide) (fun n h0 h1 => by rw [IntKind.wrap_i64]; omega) 8 (x * 256) y (by omega) (by omega) (by omega) h2 (by omega) (by omega)
theorem fold_base (k : Nat) {n : Int} (h0 : 0 ≤ n) (h1 : n ≤ 65535) : inet_fold.l0 (k + 1) n = some (F n) := by
  rw [inet_fold.l0, if_neg (by omega), F_small h0 h1]
theorem fold_step (k : Nat) {n : Int} (h0 : 65535 < n) (h1 : n ≤ 281474976710656) : inet_fold.l0 (k + 1) n = inet_fold.l0 k (n / 65536 + n % 65536) := by
  rw [inet_fold.l0, if_pos h0, and16 (by omega) (by omega), wrap64_id (by omega) (by omega)]
theorem fold_up {b c : Int} {j : Nat} (hb : ∀ k n, 0 ≤ n → n ≤ b → inet_fold.l0 (k + j) n = some (F n)) (hc : c ≤ 281474976710656)
    (hs : ∀ n : Int, 65535 < n → n ≤ c → n / 65536 + n % 65536 ≤ b) : ∀ k n, 0 ≤ n → n ≤ c → inet_fold.l0 (k + (j + 1)) n = some (F n) := by
  intro k n h0 h1
  by_cases h : n ≤ 65535
  · exact fold_base (k + j) h0 h
  · rw [show k + (j + 1) = (k + j) + 1 by omega, fold_step _ (by omega) (by omega), hb k _ (by omega) (hs n (by omega) h1), F_step (by omega)]
theorem fold_eq (k : Nat) {n : Int} (hk : 4 ≤ k) (h0 : 0 ≤ n) (h1 : n ≤ 140737488355328) : inet_fold.f k n = some (F n) := by
  have a1 := fold_up (b := 65535) (c := 131070) (j := 1) (fun k n h0 h1 => fold_base k h0 h1) (by decide) (fun n _ _ => by omega)
  have a2 := fold_up (c := 4294967295) a1 (by decide) (fun n _ _ => by omega)
  have a3 := fold_up (c := 140737488355328) a2 (by decide) (fun n _ _ => by omega)
  have := a3 (k - 4) n h0 h1
  rw [show k - 4 + (1 + 1 + 1 + 1) = k by omega] at this
  exact this
theorem Fold_loop (xs : List Int) (ho : Oct xs) (hl : xs.length ≤ 1000000) (d : Nat) : ∀ (k i : Nat) (n : Int), i + d = xs.length → d + 5 ≤ k → 0 ≤ n → n ≤ 65280 * (i : Int) →
    inet_Fold.l0 k n xs (xs.length : Int) (i : Int) = some (F (n + S (par true i) (xs.drop i))) := by
  induction d with
  | zero =>
    intro k i n hi hk h0 h1
    obtain ⟨k, rfl⟩ : ∃ m, k = m + 1 := ⟨k - 1, by omega⟩
    rw [inet_Fold.l0, if_neg (by omega), List.drop_of_length_le (by omega), fold_eq k (by omega) h0 (by omega)]
    cases par true i <;> simp [S]
  | succ d ih =>
    intro k i n hi hk h0 h1
    obtain ⟨k, rfl⟩ : ∃ m, k = m + 1 := ⟨k - 1, by omega⟩
    have hx := ho.getD i
    have hr : rd xs (i : Int) = xs.getD i 0 := rfl
    have hd : xs.drop i = xs.getD i 0 :: xs.drop (i + 1) := by
      rw [List.drop_eq_getElem_cons (by omega : i < xs.length), List.getD_eq_getElem?_getD, List.getElem?_eq_getElem (by omega : i < xs.length)]; rfl
    have hp : par true (i + 1) = !(par true i) := by rw [← par_succ]; unfold par; split <;> rfl
    have e1 : ((i : Int) + 1) = ((i + 1 : Nat) : Int) := by omega
    rw [inet_Fold.l0, if_pos (by omega), if_pos (by omega), if_pos (by omega), hr, hd, wrap64_id (x := xs.getD i 0) (by omega) (by omega), wrap64_id (x := (i : Int) + 1) (by omega) (by omega), e1, Int.tmod_eq_emod_of_nonneg (by omega)]
    by_cases c : (i : Int) % 2 = 0
    · have hq : par true i = true := by rw [par_of]; exact decide_eq_true (by omega)
      rw [if_pos c, wrap64_id (x := xs.getD i 0 * 256) (by omega) (by omega), wrap64_id (by omega) (by omega), ih k (i + 1) _ (by omega) (by omega) (by omega) (by omega), hp, hq, S]
      simp only [Bool.not_true]
      congr 2; omega
    · have hq : par true i = false := by rw [par_of]; exact decide_eq_false (by omega)
      rw [if_neg c, wrap64_id (by omega) (by omega), ih k (i + 1) _ (by omega) (by omega) (by omega) (by omega), hp, hq, S]
      simp only [Bool.not_false]
      congr 2; omega
theorem Fold_eq (k : Nat) (xs : List Int) (ho : Oct xs) (hl : xs.length ≤ 1000000) (hk : xs.length + 5 ≤ k) : inet_Fold.f k xs = some (F (S true xs)) := by
  unfold inet_Fold.f
  have := Fold_loop xs ho hl xs.length k 0 0 (by omega) hk (by omega) (by omega)
  rw [par_zero, List.drop_zero, Int.zero_add] at this
  exact this

theorem sure_eq (k : Nat) (hk : 8 ≤ k) : packthreadkeep_inetSure.f k = some true := by
  unfold packthreadkeep_inetSure.f
  rw [Fold_eq k [1, 2, 3] (by intro x hx; simp at hx; omega) (by simp) (by simp; omega)]
  rw [show S true [1, 2, 3] = 1026 by simp [S]]
  rfl

theorem bad2w (k : Nat) (a b : Int) (h0 : 0 ≤ a) (h1 : a ≤ 65535) (h2 : 0 ≤ b) (h3 : b ≤ 65535) : inet_bad.f (k + 3) [a, b] = some false := by
  have e : rd [a, b] 0 = a := rfl
  have e1 : rd [a, b] 1 = b := rfl
  have w : wrap64 (0 + 1) = 1 := wrap64_id (x := 0 + 1) (by decide) (by decide)
  have w1 : wrap64 (1 + 1) = 2 := wrap64_id (x := 1 + 1) (by decide) (by decide)
  unfold inet_bad.f
  show inet_bad.l0 (k + 3) [a, b] 2 0 = some false
  rw [inet_bad.l0, if_pos (by decide), if_pos (by decide), if_pos (by simp), e, if_neg (by omega), if_neg (by omega), w]
  rw [inet_bad.l0, if_pos (by decide), if_pos (by decide), if_pos (by simp), e1, if_neg (by omega), if_neg (by omega), w1]
  rw [inet_bad.l0, if_neg (by decide)]

theorem u16_or_comm (a b : Nat) (ha : a < 2 ^ 16) (hb : b < 2 ^ 16) : Go.bits .or .u16 (a : Int) (b : Int) = Go.bits .or .u16 (b : Int) (a : Int) := by
  have hk : ∀ n : Int, 0 ≤ n → n < 2 ^ 16 → IntKind.u16.wrap n = n := fun n h0 h1 => by simp [IntKind.wrap, IntKind.bits, IntKind.signed]; omega
  rw [(bits_nat .u16 16 (by decide) hk a b ha hb).2, (bits_nat .u16 16 (by decide) hk b a hb ha).2, Nat.or_comm]
theorem rev_eq {b : Int} (h0 : 0 ≤ b) (h1 : b ≤ 65535) : bits_ReverseBytes16.f (IntKind.u16.wrap b) = some (b % 256 * 256 + b / 256) := by
  have hw : ∀ n : Int, IntKind.u16.wrap n = n % 65536 := fun n => by simp [IntKind.wrap, IntKind.bits, IntKind.signed]
  have hk : ∀ n : Int, 0 ≤ n → n < 2 ^ 16 → IntKind.u16.wrap n = n := fun n h0 h1 => by rw [hw]; omega
  unfold bits_ReverseBytes16.f
  rw [hk b h0 (by omega), hw, show b * 256 % 65536 = b % 256 * 256 by omega]
  obtain ⟨u, hu⟩ : ∃ u : Nat, b / 256 = u := ⟨(b / 256).toNat, by omega⟩
  obtain ⟨v, hv⟩ : ∃ v : Nat, b % 256 * 256 = v := ⟨(b % 256 * 256).toNat, by omega⟩
  rw [hu, hv, u16_or_comm u v (by omega) (by omega), bits_join .u16 16 (by decide) hk 8 (v : Int) (u : Int) (by omega) (by omega) (by omega) (by omega) (by omega) (by omega)]
theorem join_eq (k : Nat) {a b : Int} (o : Bool) (hk : 8 ≤ k) (h0 : 0 ≤ a) (h1 : a ≤ 65535) (h2 : 0 ≤ b) (h3 : b ≤ 65535) :
    inet_Join.f k a b o = some (F (a + if o = true then b % 256 * 256 + b / 256 else b), 0) := by
  obtain ⟨k, rfl⟩ : ∃ m, k = m + 3 := ⟨k - 3, by omega⟩
  unfold inet_Join.f
  rw [bad2w k a b h0 h1 h2 h3, Option.bind_some, if_neg (by decide)]
  cases o with
  | true => rw [if_pos rfl, if_pos rfl, rev_eq h2 h3, Option.bind_some, wrap64_id (x := b % 256 * 256 + b / 256) (by omega) (by omega), wrap64_id (by omega) (by omega), fold_eq _ (by omega) (by omega) (by omega), Option.bind_some]
  | false => rw [if_neg (by decide), if_neg (by decide), wrap64_id (by omega) (by omega), fold_eq _ (by omega) (by omega) (by omega), Option.bind_some]

/-- YOURS -/
theorem InetParts : packthreadkeep_InetParts.Pure := by
  intro l0 l1 _ _ h _ _ g
  have ho0 := oct_of h
  have ho1 := oct_of g
  obtain ⟨k, hk⟩ : ∃ k, 2000 ≤ k := ⟨2000, Nat.le_refl _⟩
  refine ⟨k, ?_⟩
  unfold packthreadkeep_InetParts.f
  rw [octets_eq l0 600 600 rfl (by decide), Option.bind_some, octets_eq l1 600 600 rfl (by decide), Option.bind_some]
  have ht : (l0.take 600).length ≤ 600 := by rw [List.length_take]; omega
  have ht1 : (l1.take 600).length ≤ 600 := by rw [List.length_take]; omega
  have hox : Oct (l0.take 600) := ho0.take 600
  have hoy : Oct (l1.take 600) := ho1.take 600
  generalize l0.take 600 = x at *
  generalize l1.take 600 = y at *
  have hx := F_range (S true x)
  have hy := F_range (S true y)
  have hsx := S_range x true hox
  have hsy := S_range y true hoy
  rw [Fold_eq k x hox (by omega) (by omega), Option.bind_some, Fold_eq k y hoy (by omega) (by omega), Option.bind_some, join_eq k _ (by omega) hx.1 hx.2 hy.1 hy.2, Option.bind_some, sure_eq k (by omega), Option.bind_some, if_pos rfl, if_pos rfl, if_pos (by simp; omega), List.nil_append, Option.bind_some, if_pos (by omega),
    Fold_eq k _ (hox.append hoy) (by simp; omega) (by simp; omega), Option.bind_some, S_append]
  congr 1
  rw [beq_iff_eq]
  by_cases c : (x.length : Int) % 2 = 1
  · have hp : par true x.length = false := by rw [par_of]; exact decide_eq_false (by omega)
    obtain ⟨p, q, hp0, hq0, e1, e2⟩ := S_pq y hoy
    rw [if_pos (beq_iff_eq.mpr c), hp, e2, e1, ← sw_fold hp0 hq0]
    exact F_add hsx.1 (by omega)
  · have hp : par true x.length = true := by rw [par_of]; exact decide_eq_true (by omega)
    rw [if_neg (by rw [beq_iff_eq]; exact c), hp]
    exact F_add hsx.1 hsy.1

end Go.Proofs.Ytfckgffeoepaaab.Pure
