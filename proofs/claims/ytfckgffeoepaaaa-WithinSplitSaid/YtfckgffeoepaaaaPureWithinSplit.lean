/- Proved: for every input the law WithinSplit answers true: a window of serial numbers is two windows, one behind the other. Condition: none (all integers). -/
import Derived.Test.YtfckgffeoepaaaaPWithinSplitx1
namespace Go.Proofs.Ytfckgffeoepaaaa.Pure
open Go.RowKit Go.Proofs.Ytfckgffeoepaaaa.PWithinSplit Go.Proofs.YtfckgffeoepaaaaW.PrintWords Go.Proofs.YtfckgffeoepaaaaW.PrintLast
set_option linter.unusedVariables false

theorem wrap64_id {x : Int} (h0 : -9223372036854775808 ≤ x) (h1 : x ≤ 9223372036854775807) : wrap64 x = x := by unfold wrap64; omega

theorem picked_eq (a n : Int) (h0 : 0 < n) (h1 : n ≤ 1000000000000) : packthreadkeep_Picked.f a n = some (a % n) := by
  unfold packthreadkeep_Picked.f
  rw [if_neg (by omega)]
  have hm := Int.tmod_eq_emod (a := a) (b := n)
  have hlo := Int.emod_nonneg a (show n ≠ 0 by omega)
  have hhi := Int.emod_lt_of_pos a h0
  by_cases hc : 0 ≤ a ∨ n ∣ a
  · rw [if_pos hc] at hm
    have e : a.tmod n = a % n := by rw [hm]; simp
    rw [e, if_neg (by omega)]
  · rw [if_neg hc] at hm
    have e : a.tmod n = a % n - n := by rw [hm]; congr 1; omega
    rw [e, if_pos (by omega), wrap64_id (by omega) (by omega)]
    congr 1; omega

theorem bad1 (k : Nat) (s : Int) (h0 : 0 ≤ s) (h1 : s < 65536) : serial_bad.f (k + 2) [s] = some false := by
  have e : rd [s] 0 = s := rfl
  have w : wrap64 (0 + 1) = 1 := wrap64_id (x := 0 + 1) (by decide) (by decide)
  unfold serial_bad.f
  show serial_bad.l0 (k + 2) [s] 1 0 = some false
  simp only [serial_bad.l0]
  rw [if_pos (by decide), if_pos (by decide), if_pos (by simp), e, if_neg (by omega), if_neg (by omega), w, if_neg (by decide)]

theorem far_eq (a b : Int) (h0 : 0 ≤ a) (h1 : a < 65536) (h2 : 0 ≤ b) (h3 : b < 65536) : serial_far.f a b = some ((b - a) % 65536) := by
  unfold serial_far.f
  rw [wrap64_id (x := b - a) (by omega) (by omega), wrap64_id (by omega) (by omega), Int.tmod_eq_emod_of_nonneg (by omega)]
  congr 1; omega

theorem bad2 (k : Nat) (s t : Int) (h0 : 0 ≤ s) (h1 : s < 65536) (h2 : 0 ≤ t) (h3 : t < 65536) : serial_bad.f (k + 3) [s, t] = some false := by
  have e : rd [s, t] 0 = s := rfl
  have e1 : rd [s, t] 1 = t := rfl
  have w : wrap64 (0 + 1) = 1 := wrap64_id (x := 0 + 1) (by decide) (by decide)
  have w1 : wrap64 (1 + 1) = 2 := wrap64_id (x := 1 + 1) (by decide) (by decide)
  unfold serial_bad.f
  show serial_bad.l0 (k + 3) [s, t] 2 0 = some false
  simp only [serial_bad.l0]
  rw [if_pos (by decide), if_pos (by decide), if_pos (by simp), e, if_neg (by omega), if_neg (by omega), w]
  rw [if_pos (by decide), if_pos (by decide), if_pos (by simp), e1, if_neg (by omega), if_neg (by omega), w1, if_neg (by decide)]

theorem add_eq (k : Nat) (a b : Int) (h0 : 0 ≤ a) (h1 : a < 65536) (h2 : 0 ≤ b) (h3 : b < 32768) : serial_Add.f (k + 3) a b = some ((a + b) % 65536, 0) := by
  unfold serial_Add.f
  rw [bad1 (k + 1) a h0 h1]
  simp only [Option.bind_some]
  rw [if_neg (by decide), if_neg (by omega), if_neg (by omega), wrap64_id (by omega) (by omega), Int.tmod_eq_emod_of_nonneg (by omega)]

theorem within_eq (k : Nat) (s l n : Int) (h0 : 0 ≤ s) (h1 : s < 65536) (h2 : 0 ≤ l) (h3 : l < 65536) (h4 : 0 ≤ n) (h5 : n ≤ 65536) :
    serial_Within.f (k + 3) s l n = some (decide ((s - l) % 65536 < n), 0) := by
  unfold serial_Within.f
  rw [bad2 k s l h0 h1 h2 h3]
  simp only [Option.bind_some]
  rw [if_neg (by decide), if_neg (by omega), if_neg (by omega), far_eq l s h2 h3 h0 h1]
  rfl

/-- YOURS -/
theorem WithinSplit : packthreadkeep_WithinSplit.Pure := by
  intro a0 a1 a2 a3 _ _ _ _
  refine ⟨3, ?_⟩
  unfold packthreadkeep_WithinSplit.f
  rw [picked_eq _ _ (by decide) (by decide), picked_eq _ _ (by decide) (by decide), picked_eq _ _ (by decide) (by decide), picked_eq _ _ (by decide) (by decide)]
  simp only [Option.bind_some]
  have b0 : 0 ≤ a0 % 65536 ∧ a0 % 65536 < 65536 := by omega
  have b1 : 0 ≤ a1 % 65536 ∧ a1 % 65536 < 65536 := by omega
  have b2 : 0 ≤ a2 % 32768 ∧ a2 % 32768 < 32768 := by omega
  have b3 : 0 ≤ a3 % 32768 ∧ a3 % 32768 < 32768 := by omega
  generalize a0 % 65536 = x at *
  generalize a1 % 65536 = l at *
  generalize a2 % 32768 = n at *
  generalize a3 % 32768 = m at *
  rw [add_eq 0 l n (by omega) (by omega) (by omega) (by omega), wrap64_id (x := n + m) (by omega) (by omega)]
  simp only [Option.bind_some]
  rw [within_eq 0 x l n (by omega) (by omega) (by omega) (by omega) (by omega) (by omega)]
  simp only [Option.bind_some]
  rw [within_eq 0 x ((l + n) % 65536) m (by omega) (by omega) (by omega) (by omega) (by omega) (by omega)]
  simp only [Option.bind_some]
  rw [within_eq 0 x l (n + m) (by omega) (by omega) (by omega) (by omega) (by omega) (by omega)]
  simp only [Option.bind_some]
  rw [within_eq 0 x l 65536 (by omega) (by omega) (by omega) (by omega) (by omega) (by omega), within_eq 0 x l 0 (by omega) (by omega) (by omega) (by omega) (by omega) (by omega)]
  simp only [Option.bind_some]
  simp only [if_true]
  rw [if_pos (by rw [decide_eq_true_eq]; omega), if_neg (by rw [decide_eq_true_eq]; omega)]
  by_cases c : (x - l) % 65536 < n
  · rw [if_pos (decide_eq_true c), decide_eq_true (show (x - l) % 65536 < n + m by omega), decide_eq_false (show ¬ (x - (l + n) % 65536) % 65536 < m by omega)]
    rfl
  · rw [if_neg (by rw [decide_eq_true_eq]; exact c)]
    by_cases d : (x - l) % 65536 < n + m
    · rw [decide_eq_true d, decide_eq_true (show (x - (l + n) % 65536) % 65536 < m by omega)]; rfl
    · rw [decide_eq_false d, decide_eq_false (show ¬ (x - (l + n) % 65536) % 65536 < m by omega)]; rfl

end Go.Proofs.Ytfckgffeoepaaaa.Pure
