/- Proved: for every input the law RtoGood answers true: whatever is measured a timer may be, and waits no less than the way took on the average. Condition: none (every list of integers, every sample). -/
import Derived.Test.YtfckgffeoepaaabPRtoGoodx3
namespace Go.Proofs.Ytfckgffeoepaaab.Pure
open Go.RowKit Go.Proofs.Ytfckgffeoepaaab.PRtoGood Go.Proofs.YtfckgffeoepaaabW.PrintWords Go.Proofs.YtfckgffeoepaaabW.PrintLast
set_option linter.unusedVariables false

theorem wrap64_id {x : Int} (h0 : -9223372036854775808 ≤ x) (h1 : x ≤ 9223372036854775807) : wrap64 x = x := by unfold wrap64; omega

theorem picked_eq (a n : Int) (h0 : 0 < n) (h1 : n ≤ 1000000000000) : packthreadkeep_Picked.f a n = some (a % n) := by
  unfold packthreadkeep_Picked.f
  rw [if_neg (by omega)]
  have hm := Int.tmod_eq_emod (a := a) (b := n)
  have hlo := Int.emod_nonneg a (show n ≠ 0 by omega)
  have hhi := Int.emod_lt_of_pos a h0
  by_cases hc : 0 ≤ a ∨ n ∣ a
  · rw [if_pos hc] at hm
    have e : a.tmod n = a % n := by rw [hm]; simp
    rw [e, if_neg (by omega)]
  · rw [if_neg hc] at hm
    have e : a.tmod n = a % n - n := by rw [hm]; congr 1; omega
    rw [e, if_pos (by omega), wrap64_id (by omega) (by omega)]
    congr 1; omega

def Good (a b c d : Int) : Prop := 0 ≤ a ∧ a ≤ 8388608 ∧ 0 ≤ b ∧ b ≤ 4194304 ∧ 200 ≤ c ∧ c ≤ 60000 ∧ 0 ≤ d ∧ d ≤ 12
theorem in_eq {x l h : Int} (h0 : l ≤ x) (h1 : x ≤ h) : rto_in.f x l h = some true := by
  unfold rto_in.f; rw [if_pos h0, decide_eq_true h1]
theorem may_eq {a b c d : Int} (g : Good a b c d) : rto_May.f a b c d = some true := by
  obtain ⟨h0, h1, h2, h3, h4, h5, h6, h7⟩ := g
  unfold rto_May.f
  rw [in_eq h0 h1, Option.bind_some, if_pos rfl, in_eq h2 h3, Option.bind_some, if_pos rfl, in_eq h4 h5, Option.bind_some, if_pos rfl, in_eq h6 h7, Option.bind_some]
def ns (a s : Int) : Int := a + (s - a / 8)
def nv (a b s : Int) : Int := b + (mx (s - a / 8) (-(s - a / 8)) - b / 4)
def nw (a b : Int) : Int := mn (mx (a / 8 + b) 200) 60000
theorem mx_cases (a b : Int) : (a < b ∧ mx a b = b) ∨ (b ≤ a ∧ mx a b = a) := by
  unfold mx; by_cases h : a < b
  · rw [if_pos h]; exact .inl ⟨h, rfl⟩
  · rw [if_neg h]; exact .inr ⟨by omega, rfl⟩
theorem mn_cases (a b : Int) : (b < a ∧ mn a b = b) ∨ (a ≤ b ∧ mn a b = a) := by
  unfold mn; by_cases h : b < a
  · rw [if_pos h]; exact .inl ⟨h, rfl⟩
  · rw [if_neg h]; exact .inr ⟨by omega, rfl⟩
theorem nw_range (a b : Int) : 200 ≤ nw a b ∧ nw a b ≤ 60000 := by
  unfold nw
  have h1 := mx_cases (a / 8 + b) 200
  have h2 := mn_cases (mx (a / 8 + b) 200) 60000
  omega
theorem ns_range {a s : Int} (h0 : 0 ≤ a) (h1 : a ≤ 8388608) (h2 : 0 ≤ s) (h3 : s ≤ 1048576) : 0 ≤ ns a s ∧ ns a s ≤ 8388608 := by unfold ns; omega
theorem nv_range {a b s : Int} (h0 : 0 ≤ a) (h1 : a ≤ 8388608) (h2 : 0 ≤ s) (h3 : s ≤ 1048576) (h4 : 0 ≤ b) (h5 : b ≤ 4194304) : 0 ≤ nv a b s ∧ nv a b s ≤ 4194304 := by
  unfold nv
  have := mx_cases (s - a / 8) (-(s - a / 8))
  generalize mx (s - a / 8) (-(s - a / 8)) = m at *
  omega
theorem set_eq {a b c d : Int} (h0 : 0 ≤ a) (h1 : a ≤ 8388608) (h2 : 0 ≤ b) (h3 : b ≤ 4194304) : rto_set.f a b c d = some (a, b, nw a b, 0) := by
  unfold rto_set.f nw
  rw [Int.tdiv_eq_ediv_of_nonneg h0, wrap64_id (x := a / 8) (by omega) (by omega), wrap64_id (by omega) (by omega)]
theorem next_eq {a b c d s : Int} (g : Good a b c d) (h2 : 0 ≤ s) (h3 : s ≤ 1048576) : rto_Next.f a b c d s = some (ns a s, nv a b s, nw (ns a s) (nv a b s), 0, 0) := by
  have hm := may_eq g
  obtain ⟨g0, g1, g2, g3, g4, g5, g6, g7⟩ := g
  have hs := ns_range g0 g1 h2 h3
  have hv := nv_range (b := b) g0 g1 h2 h3 g2 g3
  have hx := mx_cases (s - a / 8) (-(s - a / 8))
  unfold rto_Next.f
  rw [hm, Option.bind_some, if_pos rfl, in_eq h2 h3, Option.bind_some, if_pos rfl, Int.tdiv_eq_ediv_of_nonneg g0, Int.tdiv_eq_ediv_of_nonneg g2, wrap64_id (x := a / 8) (by omega) (by omega), wrap64_id (x := b / 4) (by omega) (by omega), wrap64_id (x := s - a / 8) (by omega) (by omega), wrap64_id (x := -(s - a / 8)) (by omega) (by omega),
    wrap64_id (x := mx (s - a / 8) (-(s - a / 8)) - b / 4) (by omega) (by omega)]
  have e1 : wrap64 (a + (s - a / 8)) = ns a s := wrap64_id (by unfold ns at hs; omega) (by unfold ns at hs; omega)
  have e2 : wrap64 (b + (mx (s - a / 8) (-(s - a / 8)) - b / 4)) = nv a b s := wrap64_id (by unfold nv at hv; omega) (by unfold nv at hv; omega)
  rw [e1, e2, set_eq hs.1 hs.2 hv.1 hv.2, Option.bind_some]
theorem next_good {a b c d s : Int} (g : Good a b c d) (h2 : 0 ≤ s) (h3 : s ≤ 1048576) : Good (ns a s) (nv a b s) (nw (ns a s) (nv a b s)) 0 := by
  obtain ⟨g0, g1, g2, g3, _⟩ := g
  have hs := ns_range g0 g1 h2 h3
  have hv := nv_range (b := b) g0 g1 h2 h3 g2 g3
  have hw := nw_range (ns a s) (nv a b s)
  exact ⟨hs.1, hs.2, hv.1, hv.2, hw.1, hw.2, by decide, by decide⟩
theorem back_eq {a b c d : Int} (g : Good a b c d) (hd : d ≠ 12) : rto_Back.f a b c d = some (a, b, mn (2 * c) 60000, d + 1, 0) := by
  have hm := may_eq g
  obtain ⟨g0, g1, g2, g3, g4, g5, g6, g7⟩ := g
  unfold rto_Back.f
  rw [hm, Option.bind_some, if_pos rfl, if_neg hd, wrap64_id (by omega) (by omega), wrap64_id (by omega) (by omega)]
theorem back_full {a b c : Int} (g : Good a b c 12) : rto_Back.f a b c 12 = some (0, 0, 0, 0, 9) := by
  have hm := may_eq g
  unfold rto_Back.f
  rw [hm, Option.bind_some, if_pos rfl, if_pos rfl]
theorem back_good {a b c d : Int} (g : Good a b c d) (hd : d ≠ 12) : Good a b (mn (2 * c) 60000) (d + 1) := by
  obtain ⟨g0, g1, g2, g3, g4, g5, g6, g7⟩ := g
  have := mn_cases (2 * c) 60000
  exact ⟨g0, g1, g2, g3, by omega, by omega, by omega, by omega⟩

theorem timer_loop (l : List Int) (n : Nat) (hn : n ≤ 1000) (dd : Nat) : ∀ (k i : Nat) (a b c d : Int), i + dd = n → 3 * dd + 3 ≤ k → Good a b c d →
    ∃ a' b' c' d' : Int, packthreadkeep_TimerOf.l0 k l n 0 i a b c d = some (a', b', c', d', true) ∧ Good a' b' c' d' := by
  induction dd with
  | zero =>
    intro k i a b c d hi hk g
    obtain ⟨k, rfl⟩ : ∃ m, k = m + 2 := ⟨k - 2, by omega⟩
    refine ⟨a, b, c, d, ?_, g⟩
    have e : packthreadkeep_TimerOf.j1 (k + 1) l n 0 i false a b c d = some (a, b, c, d, true) := by
      rw [packthreadkeep_TimerOf.j1, if_neg (by decide), if_pos rfl, may_eq g, Option.bind_some]
    rw [packthreadkeep_TimerOf.l0]
    by_cases h : (i : Int) < l.length
    · rw [if_pos h, if_neg (by omega), e]
    · rw [if_neg h, e]
  | succ dd ih =>
    intro k i a b c d hi hk g
    obtain ⟨k, rfl⟩ : ∃ m, k = m + 3 := ⟨k - 3, by omega⟩
    have z0 : ((0 : Int) == 0) = true := rfl
    rw [packthreadkeep_TimerOf.l0]
    by_cases h : (i : Int) < l.length
    · have e1 : ((i : Int) + 1) = ((i + 1 : Nat) : Int) := by omega
      rw [if_pos h, if_pos (by omega), z0, packthreadkeep_TimerOf.j1, if_pos rfl, if_pos (by omega), if_pos h]
      by_cases hr : rd l i < 0
      · rw [if_pos hr]
        by_cases hd : d = 12
        · subst hd
          rw [back_full g, Option.bind_some, if_neg (by decide), if_pos rfl, packthreadkeep_TimerOf.j2, if_neg (by decide), wrap64_id (by omega) (by omega), e1]
          exact ih k (i + 1) a b c 12 (by omega) (by omega) g
        · rw [back_eq g hd, Option.bind_some, if_pos rfl, wrap64_id (by omega) (by omega), e1]
          exact ih (k + 1) (i + 1) a b _ _ (by omega) (by omega) (back_good g hd)
      · have h0 : 0 ≤ rd l i % 1048577 := by omega
        have h1 : rd l i % 1048577 ≤ 1048576 := by omega
        rw [if_neg hr, picked_eq _ _ (by decide) (by decide), Option.bind_some, next_eq g h0 h1, Option.bind_some, wrap64_id (by omega) (by omega), e1]
        exact ih (k + 1) (i + 1) _ _ _ _ (by omega) (by omega) (next_good g h0 h1)
    · refine ⟨a, b, c, d, ?_, g⟩
      rw [if_neg h, packthreadkeep_TimerOf.j1, if_neg (by decide), if_pos rfl, may_eq g, Option.bind_some]
theorem timer_eq (k : Nat) (l : List Int) (n : Nat) (hn : n ≤ 1000) (hk : 3 * n + 3 ≤ k) : ∃ a b c d : Int, packthreadkeep_TimerOf.f k l n = some (a, b, c, d, true) ∧ Good a b c d := by
  have f0 : rto_First.f 7 = some (56, 14, 200, 0, 0) := by
    unfold rto_First.f
    rw [in_eq (by decide) (by decide), Option.bind_some, if_pos rfl, wrap64_id (by decide) (by decide), wrap64_id (by decide) (by decide), set_eq (by decide) (by decide) (by decide) (by decide), Option.bind_some]
    rfl
  unfold packthreadkeep_TimerOf.f
  rw [f0, Option.bind_some]
  exact timer_loop l n hn n k 0 56 14 200 0 (by omega) hk (by unfold Good; omega)

/-- YOURS -/
theorem RtoGood : packthreadkeep_RtoGood.Pure := by
  intro l0 a1 _ _ _ _
  obtain ⟨k, hk⟩ : ∃ k, 2000 ≤ k := ⟨2000, Nat.le_refl _⟩
  refine ⟨k, ?_⟩
  obtain ⟨a, b, c, d, e, g⟩ := timer_eq k l0 60 (by decide) (by omega)
  have h0 : 0 ≤ a1 % 1048577 := by omega
  have h1 : a1 % 1048577 ≤ 1048576 := by omega
  have ef : rto_First.f (-1) = some (0, 0, 0, 0, 2) := by
    have : rto_in.f (-1) 0 1048576 = some false := by unfold rto_in.f; rw [if_neg (by decide)]
    unfold rto_First.f
    rw [this, Option.bind_some, if_neg (by decide)]
  unfold packthreadkeep_RtoGood.f
  rw [show (60 : Int) = ((60 : Nat) : Int) from rfl, e, Option.bind_some, picked_eq _ _ (by decide) (by decide), Option.bind_some]
  generalize a1 % 1048577 = s at *
  have gn := next_good g h0 h1
  have hm := may_eq gn
  have hw := nw_range (ns a s) (nv a b s)
  obtain ⟨g0, g1, g2, g3, _⟩ := id gn
  show (rto_Next.f a b c d s).bind _ = _
  rw [next_eq g h0 h1, Option.bind_some, ef, Option.bind_some, if_pos rfl, if_pos rfl, if_pos rfl, hm, Option.bind_some, if_pos rfl, if_pos rfl]
  show (if nw (ns a s) (nv a b s) ≥ wrap64 (Int.tdiv (ns a s) 8) then some true else some (nw (ns a s) (nv a b s) == 60000)) = some true
  rw [Int.tdiv_eq_ediv_of_nonneg g0, wrap64_id (by omega) (by omega)]
  by_cases cc : nw (ns a s) (nv a b s) ≥ ns a s / 8
  · rw [if_pos cc]
  · rw [if_neg cc]
    congr 1
    rw [beq_iff_eq]
    unfold nw at cc ⊢
    have m1 := mx_cases (ns a s / 8 + nv a b s) 200
    have m2 := mn_cases (mx (ns a s / 8 + nv a b s) 200) 60000
    omega

end Go.Proofs.Ytfckgffeoepaaab.Pure
