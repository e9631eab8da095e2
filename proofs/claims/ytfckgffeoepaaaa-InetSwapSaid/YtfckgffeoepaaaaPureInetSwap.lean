/- Proved: for every input the law InetSwap answers true: where each two bytes are changed with each other the halves of the fold are. Condition: none (every list of bytes). -/
import Derived.Test.YtfckgffeoepaaaaPInetSwapx1
namespace Go.Proofs.Ytfckgffeoepaaaa.Pure
open Go.RowKit Go.Proofs.Ytfckgffeoepaaaa.PInetSwap Go.Proofs.YtfckgffeoepaaaaW.PrintWords Go.Proofs.YtfckgffeoepaaaaW.PrintLast
set_option linter.unusedVariables false

theorem wrap64_id {x : Int} (h0 : -9223372036854775808 ≤ x) (h1 : x ≤ 9223372036854775807) : wrap64 x = x := by unfold wrap64; omega

def Oct (l : List Int) : Prop := ∀ x ∈ l, 0 ≤ x ∧ x ≤ 255
theorem oct_of {l : List Int} (h : ∀ x ∈ l, (Lit.int .u8 x).wf = true) : Oct l := fun x hx => by
  have := h x hx
  simp [Lit.wf, IntKind.min, IntKind.max, IntKind.signed, IntKind.bits] at this
  omega
theorem Oct.take {l : List Int} (h : Oct l) (n : Nat) : Oct (l.take n) := fun x hx => h x (List.mem_of_mem_take hx)
theorem Oct.append {a b : List Int} (h : Oct a) (g : Oct b) : Oct (a ++ b) := fun x hx => by
  rcases List.mem_append.1 hx with h1 | h1
  · exact h x h1
  · exact g x h1
theorem Oct.set {l : List Int} (h : Oct l) (i : Nat) (v : Int) (h0 : 0 ≤ v) (h1 : v ≤ 255) : Oct (l.set i v) := fun x hx => by
  rcases List.mem_or_eq_of_mem_set hx with h2 | h2
  · exact h x h2
  · subst h2; exact ⟨h0, h1⟩
theorem Oct.getD {l : List Int} (h : Oct l) (i : Nat) : 0 ≤ l.getD i 0 ∧ l.getD i 0 ≤ 255 := by
  by_cases c : i < l.length
  · rw [List.getD_eq_getElem?_getD, List.getElem?_eq_getElem c]; exact h _ (List.getElem_mem c)
  · rw [List.getD_eq_getElem?_getD, List.getElem?_eq_none (by omega)]; simp
theorem octets_eq (l : List Int) (n : Int) (m : Nat) (hm : n = (m : Int)) (hn : m ≤ 1000000) : packthreadkeep_Octets.f l n = some (l.take m) := by
  subst hm
  have e : (mn (l.length : Int) m).toNat = min l.length m := by unfold mn; split <;> omega
  have e0 : 0 ≤ mn (l.length : Int) m := by unfold mn; split <;> omega
  have e1 : mn (l.length : Int) m ≤ l.length := by unfold mn; split <;> omega
  unfold packthreadkeep_Octets.f
  rw [if_pos e0, if_pos e1, e, if_pos (by rw [List.length_take, List.length_nil]; omega), List.nil_append]
  congr 1
  by_cases c : l.length ≤ m
  · rw [Nat.min_eq_left c, List.take_length, List.take_of_length_le c]
  · rw [Nat.min_eq_right (by omega)]

/-- The sum of pairs, from an even place on (true) or from an odd one. -/
def S : Bool → List Int → Int
  | _, [] => 0
  | true, x :: r => 256 * x + S false r
  | false, x :: r => x + S true r
theorem S_t (x : Int) (r : List Int) : S true (x :: r) = 256 * x + S false r := rfl
theorem S_f (x : Int) (r : List Int) : S false (x :: r) = x + S true r := rfl
/-- A number, folded. -/
def F (n : Int) : Int := if n = 0 then 0 else (n - 1) % 65535 + 1
theorem F_range (n : Int) : 0 ≤ F n ∧ F n ≤ 65535 := by unfold F; split <;> omega
theorem F_small {n : Int} (h0 : 0 ≤ n) (h1 : n ≤ 65535) : F n = n := by unfold F; split <;> omega
theorem F_pos {n : Int} (h : n ≠ 0) : F n = (n - 1) % 65535 + 1 := by unfold F; rw [if_neg h]
theorem F_congr {a b : Int} (h : (a - b) % 65535 = 0) (ha : a ≠ 0) (hb : b ≠ 0) : F a = F b := by rw [F_pos ha, F_pos hb]; omega
theorem F_step {n : Int} (h : 65535 < n) : F (n / 65536 + n % 65536) = F n := F_congr (by omega) (by omega) (by omega)
theorem S_range : ∀ (l : List Int) (p : Bool), Oct l → 0 ≤ S p l ∧ S p l ≤ 65280 * (l.length : Int)
  | [], p, _ => by cases p <;> simp [S]
  | x :: r, p, h => by
    have hx := h x (List.mem_cons_self ..)
    have hr : Oct r := fun y hy => h y (List.mem_cons_of_mem _ hy)
    have h1 := S_range r true hr
    have h2 := S_range r false hr
    cases p <;> simp only [S, List.length_cons] <;> omega
/-- What parity follows so many bytes. -/
def par (p : Bool) (n : Nat) : Bool := if n % 2 = 0 then p else !p
theorem par_of (i : Nat) : par true i = decide (i % 2 = 0) := by
  unfold par
  by_cases h : i % 2 = 0
  · rw [if_pos h, decide_eq_true h]
  · rw [if_neg h, decide_eq_false h]; rfl
theorem par_zero (p : Bool) : par p 0 = p := rfl
theorem par_succ (p : Bool) (n : Nat) : par (!p) n = par p (n + 1) := by
  unfold par
  rcases Nat.mod_two_eq_zero_or_one n with h | h
  · rw [if_pos h, if_neg (by omega)]
  · rw [if_neg (by omega), if_pos (by omega), Bool.not_not]
theorem S_append : ∀ (a b : List Int) (p : Bool), S p (a ++ b) = S p a + S (par p a.length) b
  | [], b, p => by cases p <;> simp [S, par_zero]
  | x :: r, b, true => by
    rw [List.cons_append, S_t, S_t, S_append r b false, List.length_cons, ← par_succ]; simp only [Bool.not_true]; omega
  | x :: r, b, false => by
    rw [List.cons_append, S_f, S_f, S_append r b true, List.length_cons, ← par_succ]; simp only [Bool.not_false]; omega
def wt (p : Bool) (i : Nat) : Int := if par p i = true then 256 else 1
theorem wt_succ (p : Bool) (i : Nat) : wt p (i + 1) = wt (!p) i := by unfold wt; rw [par_succ]
theorem S_set (l : List Int) : ∀ (i : Nat) (v : Int) (p : Bool), i < l.length → S p (l.set i v) = S p l + wt p i * (v - l.getD i 0) := by
  induction l with
  | nil => intro i v p h; simp at h
  | cons x r ih =>
    intro i v p h
    cases i with
    | zero =>
      rw [List.set_cons_zero, List.getD_cons_zero]
      cases p
      · have e : wt false 0 = 1 := rfl
        rw [S_f, S_f, e]; omega
      · have e : wt true 0 = 256 := rfl
        rw [S_t, S_t, e]; omega
    | succ i =>
      have h' : i < r.length := by simpa using h
      rw [List.set_cons_succ, List.getD_cons_succ, wt_succ]
      cases p
      · rw [S_f, S_f, ih i v true h', Bool.not_false]
        generalize wt true i * (v - r.getD i 0) = z
        omega
      · rw [S_t, S_t, ih i v false h', Bool.not_true]
        generalize wt false i * (v - r.getD i 0) = z
        omega

theorem and16 {x : Int} (h0 : 0 ≤ x) (h1 : x < 2 ^ 62) : Go.bits .and .i64 x 65535 = x % 65536 :=
  bits_mask .i64 62 (by decide) (fun n h0 h1 => by rw [IntKind.wrap_i64]; omega) 16 (by decide) x h0 h1
theorem or8 {x y : Int} (h0 : 0 ≤ x) (h1 : x ≤ 255) (h2 : 0 ≤ y) (h3 : y ≤ 255) : Go.bits .or .i64 (x * 256) y = x * 256 + y :=
  bits_join .i64 31 (by decide) (fun n h0 h1 => by rw [IntKind.wrap_i64]; omega) 8 (x * 256) y (by omega) (by omega) (by omega) h2 (by omega) (by omega)
theorem fold_base (k : Nat) {n : Int} (h0 : 0 ≤ n) (h1 : n ≤ 65535) : inet_fold.l0 (k + 1) n = some (F n) := by
  rw [inet_fold.l0, if_neg (by omega), F_small h0 h1]
theorem fold_step (k : Nat) {n : Int} (h0 : 65535 < n) (h1 : n ≤ 281474976710656) : inet_fold.l0 (k + 1) n = inet_fold.l0 k (n / 65536 + n % 65536) := by
  rw [inet_fold.l0, if_pos h0, and16 (by omega) (by omega), wrap64_id (by omega) (by omega)]
theorem fold_up {b c : Int} {j : Nat} (hb : ∀ k n, 0 ≤ n → n ≤ b → inet_fold.l0 (k + j) n = some (F n)) (hc : c ≤ 281474976710656)
    (hs : ∀ n : Int, 65535 < n → n ≤ c → n / 65536 + n % 65536 ≤ b) : ∀ k n, 0 ≤ n → n ≤ c → inet_fold.l0 (k + (j + 1)) n = some (F n) := by
  intro k n h0 h1
  by_cases h : n ≤ 65535
  · exact fold_base (k + j) h0 h
  · rw [show k + (j + 1) = (k + j) + 1 by omega, fold_step _ (by omega) (by omega), hb k _ (by omega) (hs n (by omega) h1), F_step (by omega)]
theorem fold_eq (k : Nat) {n : Int} (hk : 4 ≤ k) (h0 : 0 ≤ n) (h1 : n ≤ 140737488355328) : inet_fold.f k n = some (F n) := by
  have a1 := fold_up (b := 65535) (c := 131070) (j := 1) (fun k n h0 h1 => fold_base k h0 h1) (by decide) (fun n _ _ => by omega)
  have a2 := fold_up (c := 4294967295) a1 (by decide) (fun n _ _ => by omega)
  have a3 := fold_up (c := 140737488355328) a2 (by decide) (fun n _ _ => by omega)
  have := a3 (k - 4) n h0 h1
  rw [show k - 4 + (1 + 1 + 1 + 1) = k by omega] at this
  exact this
theorem Fold_loop (xs : List Int) (ho : Oct xs) (hl : xs.length ≤ 1000000) (d : Nat) : ∀ (k i : Nat) (n : Int), i + d = xs.length → d + 5 ≤ k → 0 ≤ n → n ≤ 65280 * (i : Int) →
    inet_Fold.l0 k n xs (xs.length : Int) (i : Int) = some (F (n + S (par true i) (xs.drop i))) := by
  induction d with
  | zero =>
    intro k i n hi hk h0 h1
    obtain ⟨k, rfl⟩ : ∃ m, k = m + 1 := ⟨k - 1, by omega⟩
    rw [inet_Fold.l0, if_neg (by omega), List.drop_of_length_le (by omega), fold_eq k (by omega) h0 (by omega)]
    cases par true i <;> simp [S]
  | succ d ih =>
    intro k i n hi hk h0 h1
    obtain ⟨k, rfl⟩ : ∃ m, k = m + 1 := ⟨k - 1, by omega⟩
    have hx := ho.getD i
    have hr : rd xs (i : Int) = xs.getD i 0 := rfl
    have hd : xs.drop i = xs.getD i 0 :: xs.drop (i + 1) := by
      rw [List.drop_eq_getElem_cons (by omega : i < xs.length), List.getD_eq_getElem?_getD, List.getElem?_eq_getElem (by omega : i < xs.length)]; rfl
    have hp : par true (i + 1) = !(par true i) := by rw [← par_succ]; unfold par; split <;> rfl
    have e1 : ((i : Int) + 1) = ((i + 1 : Nat) : Int) := by omega
    rw [inet_Fold.l0, if_pos (by omega), if_pos (by omega), if_pos (by omega), hr, hd, wrap64_id (x := xs.getD i 0) (by omega) (by omega), wrap64_id (x := (i : Int) + 1) (by omega) (by omega), e1, Int.tmod_eq_emod_of_nonneg (by omega)]
    by_cases c : (i : Int) % 2 = 0
    · have hq : par true i = true := by rw [par_of]; exact decide_eq_true (by omega)
      rw [if_pos c, wrap64_id (x := xs.getD i 0 * 256) (by omega) (by omega), wrap64_id (by omega) (by omega), ih k (i + 1) _ (by omega) (by omega) (by omega) (by omega), hp, hq, S]
      simp only [Bool.not_true]
      congr 2; omega
    · have hq : par true i = false := by rw [par_of]; exact decide_eq_false (by omega)
      rw [if_neg c, wrap64_id (by omega) (by omega), ih k (i + 1) _ (by omega) (by omega) (by omega) (by omega), hp, hq, S]
      simp only [Bool.not_false]
      congr 2; omega
theorem Fold_eq (k : Nat) (xs : List Int) (ho : Oct xs) (hl : xs.length ≤ 1000000) (hk : xs.length + 5 ≤ k) : inet_Fold.f k xs = some (F (S true xs)) := by
  unfold inet_Fold.f
  have := Fold_loop xs ho hl xs.length k 0 0 (by omega) hk (by omega) (by omega)
  rw [par_zero, List.drop_zero, Int.zero_add] at this
  exact this

theorem sure_eq (k : Nat) (hk : 8 ≤ k) : packthreadkeep_inetSure.f k = some true := by
  unfold packthreadkeep_inetSure.f
  rw [Fold_eq k [1, 2, 3] (by intro x hx; simp at hx; omega) (by simp) (by simp; omega)]
  rw [show S true [1, 2, 3] = 1026 by simp [S]]
  rfl

/-- Each two are changed with each other. -/
def sw : List Int → List Int
  | a :: b :: r => b :: a :: sw r
  | [a] => [a]
  | [] => []
theorem sw_oct : ∀ l, Oct l → Oct (sw l)
  | [], h => h
  | [a], h => h
  | a :: b :: r, h => by
    have hr := sw_oct r (fun x hx => h x (List.mem_cons_of_mem _ (List.mem_cons_of_mem _ hx)))
    intro x hx
    rw [sw] at hx
    rcases List.mem_cons.1 hx with rfl | hx
    · exact h x (List.mem_cons_of_mem _ (List.mem_cons_self ..))
    · rcases List.mem_cons.1 hx with rfl | hx
      · exact h x (List.mem_cons_self ..)
      · exact hr x hx
theorem sw_len : ∀ l, (sw l).length = l.length
  | [] => rfl
  | [a] => rfl
  | a :: b :: r => by rw [sw]; simp [sw_len r]
/-- Two numbers a list comes to: the first bytes' sum and the second ones'. -/
theorem sw_sums : ∀ l : List Int, l.length % 2 = 0 → Oct l → ∃ p q : Int, 0 ≤ p ∧ 0 ≤ q ∧ S true l = 256 * p + q ∧ S true (sw l) = 256 * q + p
  | [], _, _ => ⟨0, 0, by decide, by decide, rfl, rfl⟩
  | [a], h, _ => by simp at h
  | a :: b :: r, h, ho => by
    obtain ⟨p, q, hp, hq, e1, e2⟩ := sw_sums r (by rw [List.length_cons, List.length_cons] at h; omega) (fun x hx => ho x (List.mem_cons_of_mem _ (List.mem_cons_of_mem _ hx)))
    have ha := ho a (List.mem_cons_self ..)
    have hb := ho b (List.mem_cons_of_mem _ (List.mem_cons_self ..))
    refine ⟨p + a, q + b, by omega, by omega, ?_, ?_⟩
    · rw [S_t, S_f, e1]; omega
    · rw [sw, S_t, S_f, e2]; omega
theorem sw_fold {p q : Int} (hp : 0 ≤ p) (hq : 0 ≤ q) : F (256 * q + p) = F (256 * p + q) % 256 * 256 + F (256 * p + q) / 256 := by
  by_cases h : 256 * p + q = 0
  · have : p = 0 := by omega
    have : q = 0 := by omega
    subst p q; decide
  · rw [F_pos (show 256 * q + p ≠ 0 by omega), F_pos h]
    have e : (256 * q + p - 65536 * q) % 65535 = (256 * q + p - q) % 65535 := by omega
    omega
theorem loop (x : List Int) (ho : Oct x) (he : x.length % 2 = 0) (hl : x.length ≤ 700) (d : Nat) : ∀ (k i : Nat) (y : List Int), i + 2 * d = x.length → d + 1000 ≤ k → y.length = i → y ++ sw (x.drop i) = sw x →
    packthreadkeep_InetSwap.l0 k x y (i : Int) = some true := by
  induction d with
  | zero =>
    intro k i y hi hk hy hyx
    obtain ⟨k, rfl⟩ : ∃ m, k = m + 1 := ⟨k - 1, by omega⟩
    have hd : x.drop i = [] := List.drop_of_length_le (by omega)
    have hyx : y = sw x := by rw [← hyx, hd]; simp [sw]
    subst hyx
    obtain ⟨p, q, hp, hq, e1, e2⟩ := sw_sums x he ho
    have hF := F_range (S true x)
    rw [packthreadkeep_InetSwap.l0, if_neg (by omega), Fold_eq k x ho (by omega) (by omega)]
    simp only [Option.bind_some]
    rw [sure_eq k (by omega)]
    simp only [Option.bind_some, if_true]
    rw [if_pos (by omega), if_pos (by omega), Fold_eq k _ (sw_oct x ho) (by rw [sw_len]; omega) (by rw [sw_len]; omega)]
    simp only [Option.bind_some]
    rw [Int.tmod_eq_emod_of_nonneg (by omega), Int.tdiv_eq_ediv_of_nonneg (by omega), wrap64_id (x := F (S true x) / 256) (by omega) (by omega), wrap64_id (x := F (S true x) % 256 * 256) (by omega) (by omega), wrap64_id (by omega) (by omega)]
    congr 1
    rw [beq_iff_eq, e1, e2]
    exact sw_fold hp hq
  | succ d ih =>
    intro k i y hi hk hy hyx
    obtain ⟨k, rfl⟩ : ∃ m, k = m + 1 := ⟨k - 1, by omega⟩
    have hd : x.drop i = x.getD i 0 :: x.getD (i + 1) 0 :: x.drop (i + 2) := by
      rw [List.drop_eq_getElem_cons (by omega : i < x.length), List.drop_eq_getElem_cons (by omega : i + 1 < x.length)]
      simp [List.getD_eq_getElem?_getD, List.getElem?_eq_getElem (by omega : i < x.length), List.getElem?_eq_getElem (by omega : i + 1 < x.length)]
    have e1 : ((i : Int) + 1) = ((i + 1 : Nat) : Int) := by omega
    have e2 : ((i : Int) + 2) = ((i + 2 : Nat) : Int) := by omega
    have r1 : rd x ((i + 1 : Nat) : Int) = x.getD (i + 1) 0 := rfl
    have r0 : rd x (i : Int) = x.getD i 0 := rfl
    rw [packthreadkeep_InetSwap.l0, if_pos (by omega), wrap64_id (x := (i : Int) + 1) (by omega) (by omega), if_pos (by omega), if_pos (by omega), if_pos (by omega), e1, r1, r0]
    simp only [Option.bind_some]
    rw [if_pos (by simp; omega), wrap64_id (by omega) (by omega), e2]
    refine ih k (i + 2) _ (by omega) (by omega) (by simp; omega) ?_
    rw [← hyx, hd, sw]; simp

theorem swapped (x : List Int) (ho : Oct x) (he : x.length % 2 = 0) (hl : x.length ≤ 700) : packthreadkeep_InetSwap.j0 2001 x = some true := by
  rw [packthreadkeep_InetSwap.j0]
  exact loop x ho he hl (x.length / 2) 2000 0 [] (by omega) (by omega) rfl (by simp)

/-- YOURS -/
theorem InetSwap : packthreadkeep_InetSwap.Pure := by
  intro l0 _ _ h
  have ho := oct_of h
  refine ⟨2001, ?_⟩
  unfold packthreadkeep_InetSwap.f
  rw [octets_eq l0 600 600 rfl (by decide)]
  simp only [Option.bind_some]
  have ht : (l0.take 600).length ≤ 600 := by rw [List.length_take]; omega
  generalize hx : l0.take 600 = x at *
  have hox : Oct x := by rw [← hx]; exact ho.take 600
  by_cases c : (x.length : Int) % 2 = 1
  · rw [if_pos c, if_pos (by omega)]
    exact swapped (x ++ [0]) (hox.append (by intro y hy; simp at hy; omega)) (by simp; omega) (by simp; omega)
  · rw [if_neg c]
    exact swapped x hox (by omega) (by omega)

end Go.Proofs.Ytfckgffeoepaaaa.Pure
