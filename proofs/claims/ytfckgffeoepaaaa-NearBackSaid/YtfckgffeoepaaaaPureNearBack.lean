/- Proved: for every input the law NearBack answers true: a place less than half a round away is found by its serial number. Condition: none (all integers). -/
import Derived.Test.YtfckgffeoepaaaaPNearBackx1
namespace Go.Proofs.Ytfckgffeoepaaaa.Pure
open Go.RowKit Go.Proofs.Ytfckgffeoepaaaa.PNearBack Go.Proofs.YtfckgffeoepaaaaW.PrintWords Go.Proofs.YtfckgffeoepaaaaW.PrintLast
set_option linter.unusedVariables false

theorem wrap64_id {x : Int} (h0 : -9223372036854775808 ≤ x) (h1 : x ≤ 9223372036854775807) : wrap64 x = x := by unfold wrap64; omega

theorem picked_eq (a n : Int) (h0 : 0 < n) (h1 : n ≤ 1000000000000) : packthreadkeep_Picked.f a n = some (a % n) := by
  unfold packthreadkeep_Picked.f
  rw [if_neg (by omega)]
  have hm := Int.tmod_eq_emod (a := a) (b := n)
  have hlo := Int.emod_nonneg a (show n ≠ 0 by omega)
  have hhi := Int.emod_lt_of_pos a h0
  by_cases hc : 0 ≤ a ∨ n ∣ a
  · rw [if_pos hc] at hm
    have e : a.tmod n = a % n := by rw [hm]; simp
    rw [e, if_neg (by omega)]
  · rw [if_neg hc] at hm
    have e : a.tmod n = a % n - n := by rw [hm]; congr 1; omega
    rw [e, if_pos (by omega), wrap64_id (by omega) (by omega)]
    congr 1; omega

theorem bad1 (k : Nat) (s : Int) (h0 : 0 ≤ s) (h1 : s < 65536) : serial_bad.f (k + 2) [s] = some false := by
  have e : rd [s] 0 = s := rfl
  have w : wrap64 (0 + 1) = 1 := wrap64_id (x := 0 + 1) (by decide) (by decide)
  unfold serial_bad.f
  show serial_bad.l0 (k + 2) [s] 1 0 = some false
  simp only [serial_bad.l0]
  rw [if_pos (by decide), if_pos (by decide), if_pos (by simp), e, if_neg (by omega), if_neg (by omega), w, if_neg (by decide)]

theorem far_eq (a b : Int) (h0 : 0 ≤ a) (h1 : a < 65536) (h2 : 0 ≤ b) (h3 : b < 65536) : serial_far.f a b = some ((b - a) % 65536) := by
  unfold serial_far.f
  rw [wrap64_id (x := b - a) (by omega) (by omega), wrap64_id (by omega) (by omega), Int.tmod_eq_emod_of_nonneg (by omega)]
  congr 1; omega

theorem near_eq (k : Nat) (s p : Int) (h0 : 0 ≤ s) (h1 : s < 65536) (h2 : 0 ≤ p) (h3 : p ≤ 1048576) :
    serial_Near.f (k + 3) s p = some (p + (if (s - p % 65536) % 65536 ≥ 32768 then (s - p % 65536) % 65536 - 65536 else (s - p % 65536) % 65536), 0) := by
  unfold serial_Near.f
  rw [bad1 (k + 1) s h0 h1]
  simp only [Option.bind_some]
  rw [if_neg (by decide), if_neg (by omega), decide_eq_false (by omega)]
  simp only [serial_Near.j0]
  rw [if_neg (by decide), Int.tmod_eq_emod_of_nonneg h2, far_eq _ _ (by omega) (by omega) h0 h1]
  simp only [Option.bind_some]
  by_cases c : (s - p % 65536) % 65536 ≥ 32768
  · rw [if_pos c, if_pos c, wrap64_id (x := (s - p % 65536) % 65536 - 65536) (by omega) (by omega), wrap64_id (by omega) (by omega)]
  · rw [if_neg c, if_neg c, wrap64_id (by omega) (by omega)]

/-- YOURS -/
theorem NearBack : packthreadkeep_NearBack.Pure := by
  intro a0 a1 _ _
  refine ⟨3, ?_⟩
  unfold packthreadkeep_NearBack.f
  rw [picked_eq _ _ (by decide) (by decide), picked_eq _ _ (by decide) (by decide)]
  simp only [Option.bind_some]
  have b0 : 0 ≤ a0 % 1048577 := by omega
  have b1 : a0 % 1048577 < 1048577 := by omega
  have b2 : 0 ≤ a1 % 65535 := by omega
  have b3 : a1 % 65535 < 65535 := by omega
  generalize a0 % 1048577 = p at *
  generalize a1 % 65535 = q at *
  rw [wrap64_id (x := q - 32767) (by omega) (by omega), wrap64_id (x := p + (q - 32767)) (by omega) (by omega), Int.tmod_eq_emod_of_nonneg (a := p) b0]
  have self : serial_Near.f 3 (p % 65536) p = some (p, 0) := by
    rw [near_eq 0 _ _ (by omega) (by omega) b0 (by omega)]; congr 2; split <;> omega
  by_cases c : p + (q - 32767) < 0
  · rw [if_pos c]
    have other : serial_Near.f 3 (0 % 65536) p = some (0, 0) := by
      rw [near_eq 0 _ _ (by omega) (by omega) b0 (by omega)]; congr 2; split <;> omega
    rw [other, self]; simp
  · rw [if_neg c, Int.tmod_eq_emod_of_nonneg (a := p + (q - 32767)) (by omega)]
    have other : serial_Near.f 3 ((p + (q - 32767)) % 65536) p = some (p + (q - 32767), 0) := by
      rw [near_eq 0 _ _ (by omega) (by omega) b0 (by omega)]; congr 2; split <;> omega
    rw [other, self]; simp

end Go.Proofs.Ytfckgffeoepaaaa.Pure
