/- Proved: for every input the law SerialHalf answers true: of two serial numbers one is ahead, or they are the same or half a round apart, and a shift of both keeps the order. Condition: none (all integers). -/
import Derived.Test.YtfckgffeoepaaaaPSerialHalfx1
namespace Go.Proofs.Ytfckgffeoepaaaa.Pure
open Go.RowKit Go.Proofs.Ytfckgffeoepaaaa.PSerialHalf Go.Proofs.YtfckgffeoepaaaaW.PrintWords Go.Proofs.YtfckgffeoepaaaaW.PrintLast
set_option linter.unusedVariables false

theorem wrap64_id {x : Int} (h0 : -9223372036854775808 ≤ x) (h1 : x ≤ 9223372036854775807) : wrap64 x = x := by unfold wrap64; omega

theorem picked_eq (a n : Int) (h0 : 0 < n) (h1 : n ≤ 1000000000000) : packthreadkeep_Picked.f a n = some (a % n) := by
  unfold packthreadkeep_Picked.f
  rw [if_neg (by omega)]
  have hm := Int.tmod_eq_emod (a := a) (b := n)
  have hlo := Int.emod_nonneg a (show n ≠ 0 by omega)
  have hhi := Int.emod_lt_of_pos a h0
  by_cases hc : 0 ≤ a ∨ n ∣ a
  · rw [if_pos hc] at hm
    have e : a.tmod n = a % n := by rw [hm]; simp
    rw [e, if_neg (by omega)]
  · rw [if_neg hc] at hm
    have e : a.tmod n = a % n - n := by rw [hm]; congr 1; omega
    rw [e, if_pos (by omega), wrap64_id (by omega) (by omega)]
    congr 1; omega

theorem bad1 (k : Nat) (s : Int) (h0 : 0 ≤ s) (h1 : s < 65536) : serial_bad.f (k + 2) [s] = some false := by
  have e : rd [s] 0 = s := rfl
  have w : wrap64 (0 + 1) = 1 := wrap64_id (x := 0 + 1) (by decide) (by decide)
  unfold serial_bad.f
  show serial_bad.l0 (k + 2) [s] 1 0 = some false
  simp only [serial_bad.l0]
  rw [if_pos (by decide), if_pos (by decide), if_pos (by simp), e, if_neg (by omega), if_neg (by omega), w, if_neg (by decide)]

theorem far_eq (a b : Int) (h0 : 0 ≤ a) (h1 : a < 65536) (h2 : 0 ≤ b) (h3 : b < 65536) : serial_far.f a b = some ((b - a) % 65536) := by
  unfold serial_far.f
  rw [wrap64_id (x := b - a) (by omega) (by omega), wrap64_id (by omega) (by omega), Int.tmod_eq_emod_of_nonneg (by omega)]
  congr 1; omega

theorem bad2 (k : Nat) (s t : Int) (h0 : 0 ≤ s) (h1 : s < 65536) (h2 : 0 ≤ t) (h3 : t < 65536) : serial_bad.f (k + 3) [s, t] = some false := by
  have e : rd [s, t] 0 = s := rfl
  have e1 : rd [s, t] 1 = t := rfl
  have w : wrap64 (0 + 1) = 1 := wrap64_id (x := 0 + 1) (by decide) (by decide)
  have w1 : wrap64 (1 + 1) = 2 := wrap64_id (x := 1 + 1) (by decide) (by decide)
  unfold serial_bad.f
  show serial_bad.l0 (k + 3) [s, t] 2 0 = some false
  simp only [serial_bad.l0]
  rw [if_pos (by decide), if_pos (by decide), if_pos (by simp), e, if_neg (by omega), if_neg (by omega), w]
  rw [if_pos (by decide), if_pos (by decide), if_pos (by simp), e1, if_neg (by omega), if_neg (by omega), w1, if_neg (by decide)]

theorem add_eq (k : Nat) (a b : Int) (h0 : 0 ≤ a) (h1 : a < 65536) (h2 : 0 ≤ b) (h3 : b < 32768) : serial_Add.f (k + 3) a b = some ((a + b) % 65536, 0) := by
  unfold serial_Add.f
  rw [bad1 (k + 1) a h0 h1]
  simp only [Option.bind_some]
  rw [if_neg (by decide), if_neg (by omega), if_neg (by omega), wrap64_id (by omega) (by omega), Int.tmod_eq_emod_of_nonneg (by omega)]

def ord (a b : Int) : Int := if (b - a) % 65536 = 0 then 0 else if (b - a) % 65536 = 32768 then 2 else if (b - a) % 65536 < 32768 then -1 else 1

theorem order_eq (k : Nat) (a b : Int) (h0 : 0 ≤ a) (h1 : a < 65536) (h2 : 0 ≤ b) (h3 : b < 65536) : packthreadkeep_serialOrder.f (k + 3) a b = some (ord a b) := by
  have e : serial_Order.f (k + 3) a b = some (ord a b, 0) := by
    unfold serial_Order.f ord
    rw [bad2 k a b h0 h1 h2 h3]
    simp only [Option.bind_some]
    rw [if_neg (by decide), far_eq a b h0 h1 h2 h3]
    simp only [Option.bind_some]
    repeat' split
    all_goals rfl
  unfold packthreadkeep_serialOrder.f
  rw [e]; rfl

/-- YOURS -/
theorem SerialHalf : packthreadkeep_SerialHalf.Pure := by
  intro a0 a1 a2 _ _ _
  refine ⟨3, ?_⟩
  unfold packthreadkeep_SerialHalf.f
  rw [picked_eq _ _ (by decide) (by decide), picked_eq _ _ (by decide) (by decide), picked_eq _ _ (by decide) (by decide)]
  simp only [Option.bind_some]
  have b0 : 0 ≤ a0 % 65536 ∧ a0 % 65536 < 65536 := by omega
  have b1 : 0 ≤ a1 % 65536 ∧ a1 % 65536 < 65536 := by omega
  have b2 : 0 ≤ a2 % 32768 ∧ a2 % 32768 < 32768 := by omega
  generalize a0 % 65536 = x at *
  generalize a1 % 65536 = y at *
  generalize a2 % 32768 = n at *
  rw [add_eq 0 x n (by omega) (by omega) (by omega) (by omega), add_eq 0 y n (by omega) (by omega) (by omega) (by omega)]
  simp only [Option.bind_some]
  rw [order_eq 0 x y (by omega) (by omega) (by omega) (by omega), order_eq 0 y x (by omega) (by omega) (by omega) (by omega)]
  simp only [Option.bind_some]
  simp only [if_true]
  rw [order_eq 0 _ _ (by omega) (by omega) (by omega) (by omega)]
  simp only [Option.bind_some]
  have e : ord ((x + n) % 65536) ((y + n) % 65536) = ord x y := by
    unfold ord
    rw [show ((y + n) % 65536 - (x + n) % 65536) % 65536 = (y - x) % 65536 by omega]
  rw [e, if_pos rfl]
  have same : ((ord x y == 0) != (x == y)) = false := by
    by_cases c : x = y
    · have : ord x y = 0 := by unfold ord; rw [if_pos (by omega)]
      rw [this, c]; simp
    · have : ord x y ≠ 0 := by
        unfold ord
        rw [if_neg (by omega)]
        by_cases h2 : (y - x) % 65536 = 32768
        · rw [if_pos h2]; omega
        · by_cases h3 : (y - x) % 65536 < 32768
          · rw [if_neg h2, if_pos h3]; omega
          · rw [if_neg h2, if_neg h3]; omega
      rw [beq_eq_false_iff_ne.mpr this, beq_eq_false_iff_ne.mpr c]; rfl
  rw [same]
  simp only [packthreadkeep_SerialHalf.j0]
  rw [if_neg (by decide), wrap64_id (x := x - y) (by omega) (by omega), wrap64_id (x := y - x) (by omega) (by omega)]
  have o : ord x y = 0 ∨ ord x y = 2 ∨ ord x y = -1 ∨ ord x y = 1 := by
    unfold ord
    by_cases h1 : (y - x) % 65536 = 0
    · rw [if_pos h1]; omega
    · by_cases h2 : (y - x) % 65536 = 32768
      · rw [if_neg h1, if_pos h2]; omega
      · by_cases h3 : (y - x) % 65536 < 32768
        · rw [if_neg h1, if_neg h2, if_pos h3]; omega
        · rw [if_neg h1, if_neg h2, if_neg h3]; omega
  by_cases c2 : ord x y = 2
  · have d : (y - x) % 65536 = 32768 := by
      unfold ord at c2
      repeat' split at c2
      all_goals omega
    have r : ord y x = 2 := by unfold ord; rw [if_neg (by omega), if_pos (by omega)]
    rw [if_pos c2, if_pos r]
    by_cases g : x - y = 32768
    · rw [if_pos g]
    · rw [if_neg g, beq_iff_eq.mpr (by omega)]
  · rw [if_neg c2, if_pos (by omega), if_pos (by omega), wrap64_id (by omega) (by omega)]
    congr 1
    rw [beq_iff_eq]
    unfold ord at c2 ⊢
    by_cases h1 : (y - x) % 65536 = 0
    · rw [if_pos h1, if_pos (by omega)]; omega
    · by_cases h2 : (y - x) % 65536 = 32768
      · rw [if_neg h1, if_pos h2] at c2; omega
      · by_cases h3 : (y - x) % 65536 < 32768
        · rw [if_neg h1, if_neg h2, if_pos h3, if_neg (by omega), if_neg (by omega), if_neg (by omega)]; omega
        · rw [if_neg h1, if_neg h2, if_neg h3, if_neg (by omega), if_neg (by omega), if_pos (by omega)]

end Go.Proofs.Ytfckgffeoepaaaa.Pure
