/- Proved: for every input the law SerialAhead answers true: a serial number and the one that is added to are in that order, seen from both sides. Condition: none (all integers). -/
import Derived.Test.YtfckgffeoepaaaaPSerialAheadx2
namespace Go.Proofs.Ytfckgffeoepaaaa.Pure
open Go.RowKit Go.Proofs.Ytfckgffeoepaaaa.PSerialAhead Go.Proofs.YtfckgffeoepaaaaW.PrintWords Go.Proofs.YtfckgffeoepaaaaW.PrintLast
set_option linter.unusedVariables false

theorem wrap64_id {x : Int} (h0 : -9223372036854775808 ≤ x) (h1 : x ≤ 9223372036854775807) : wrap64 x = x := by unfold wrap64; omega

theorem picked_eq (a n : Int) (h0 : 0 < n) (h1 : n ≤ 1000000000000) : packthreadkeep_Picked.f a n = some (a % n) := by
  unfold packthreadkeep_Picked.f
  rw [if_neg (by omega)]
  have hm := Int.tmod_eq_emod (a := a) (b := n)
  have hlo := Int.emod_nonneg a (show n ≠ 0 by omega)
  have hhi := Int.emod_lt_of_pos a h0
  by_cases hc : 0 ≤ a ∨ n ∣ a
  · rw [if_pos hc] at hm
    have e : a.tmod n = a % n := by rw [hm]; simp
    rw [e, if_neg (by omega)]
  · rw [if_neg hc] at hm
    have e : a.tmod n = a % n - n := by rw [hm]; congr 1; omega
    rw [e, if_pos (by omega), wrap64_id (by omega) (by omega)]
    congr 1; omega

theorem bad1 (k : Nat) (s : Int) (h0 : 0 ≤ s) (h1 : s < 65536) : serial_bad.f (k + 2) [s] = some false := by
  have e : rd [s] 0 = s := rfl
  have w : wrap64 (0 + 1) = 1 := wrap64_id (x := 0 + 1) (by decide) (by decide)
  unfold serial_bad.f
  show serial_bad.l0 (k + 2) [s] 1 0 = some false
  simp only [serial_bad.l0]
  rw [if_pos (by decide), if_pos (by decide), if_pos (by simp), e, if_neg (by omega), if_neg (by omega), w, if_neg (by decide)]

theorem far_eq (a b : Int) (h0 : 0 ≤ a) (h1 : a < 65536) (h2 : 0 ≤ b) (h3 : b < 65536) : serial_far.f a b = some ((b - a) % 65536) := by
  unfold serial_far.f
  rw [wrap64_id (x := b - a) (by omega) (by omega), wrap64_id (by omega) (by omega), Int.tmod_eq_emod_of_nonneg (by omega)]
  congr 1; omega

theorem bad2 (k : Nat) (s t : Int) (h0 : 0 ≤ s) (h1 : s < 65536) (h2 : 0 ≤ t) (h3 : t < 65536) : serial_bad.f (k + 3) [s, t] = some false := by
  have e : rd [s, t] 0 = s := rfl
  have e1 : rd [s, t] 1 = t := rfl
  have w : wrap64 (0 + 1) = 1 := wrap64_id (x := 0 + 1) (by decide) (by decide)
  have w1 : wrap64 (1 + 1) = 2 := wrap64_id (x := 1 + 1) (by decide) (by decide)
  unfold serial_bad.f
  show serial_bad.l0 (k + 3) [s, t] 2 0 = some false
  simp only [serial_bad.l0]
  rw [if_pos (by decide), if_pos (by decide), if_pos (by simp), e, if_neg (by omega), if_neg (by omega), w]
  rw [if_pos (by decide), if_pos (by decide), if_pos (by simp), e1, if_neg (by omega), if_neg (by omega), w1, if_neg (by decide)]

theorem add_eq (k : Nat) (a b : Int) (h0 : 0 ≤ a) (h1 : a < 65536) (h2 : 0 ≤ b) (h3 : b < 32768) : serial_Add.f (k + 3) a b = some ((a + b) % 65536, 0) := by
  unfold serial_Add.f
  rw [bad1 (k + 1) a h0 h1]
  simp only [Option.bind_some]
  rw [if_neg (by decide), if_neg (by omega), if_neg (by omega), wrap64_id (by omega) (by omega), Int.tmod_eq_emod_of_nonneg (by omega)]

theorem Far_eq (k : Nat) (a b : Int) (h0 : 0 ≤ a) (h1 : a < 65536) (h2 : 0 ≤ b) (h3 : b < 65536) : serial_Far.f (k + 3) a b = some ((b - a) % 65536, 0) := by
  unfold serial_Far.f
  rw [bad2 k a b h0 h1 h2 h3]
  simp only [Option.bind_some]
  rw [if_neg (by decide), far_eq a b h0 h1 h2 h3]
  rfl

def ord (a b : Int) : Int := if (b - a) % 65536 = 0 then 0 else if (b - a) % 65536 = 32768 then 2 else if (b - a) % 65536 < 32768 then -1 else 1

theorem order_eq (k : Nat) (a b : Int) (h0 : 0 ≤ a) (h1 : a < 65536) (h2 : 0 ≤ b) (h3 : b < 65536) : packthreadkeep_serialOrder.f (k + 3) a b = some (ord a b) := by
  have e : serial_Order.f (k + 3) a b = some (ord a b, 0) := by
    unfold serial_Order.f ord
    rw [bad2 k a b h0 h1 h2 h3]
    simp only [Option.bind_some]
    rw [if_neg (by decide), far_eq a b h0 h1 h2 h3]
    simp only [Option.bind_some]
    repeat' split
    all_goals rfl
  unfold packthreadkeep_serialOrder.f
  rw [e]; rfl

/-- YOURS -/
theorem SerialAhead : packthreadkeep_SerialAhead.Pure := by
  intro a0 a1 a2 _ _ _
  refine ⟨7, ?_⟩
  unfold packthreadkeep_SerialAhead.f
  rw [picked_eq _ _ (by decide) (by decide), picked_eq _ _ (by decide) (by decide), picked_eq _ _ (by decide) (by decide)]
  simp only [Option.bind_some]
  have b0 : 0 ≤ a0 % 65536 ∧ a0 % 65536 < 65536 := by omega
  have b1 : 0 ≤ a1 % 32768 ∧ a1 % 32768 < 32768 := by omega
  have b2 : 0 ≤ a2 % 32768 ∧ a2 % 32768 < 32768 := by omega
  generalize a0 % 65536 = s at *
  generalize a1 % 32768 = x at *
  generalize a2 % 32768 = y at *
  rw [add_eq 4 s x (by omega) (by omega) (by omega) (by omega)]
  simp only [Option.bind_some]
  rw [add_eq 4 _ y (by omega) (by omega) (by omega) (by omega), Far_eq 4 _ _ (by omega) (by omega) (by omega) (by omega)]
  simp only [Option.bind_some]
  rw [Far_eq 4 _ _ (by omega) (by omega) (by omega) (by omega)]
  simp only [Option.bind_some]
  simp only [if_true]
  rw [if_pos (by omega), if_neg (by omega), if_neg (by omega)]
  have fin (want : Int) (hw : ord s ((s + x) % 65536) = want) (hw2 : ord ((s + x) % 65536) s = -want) (hb : -1 ≤ want) (hb1 : want ≤ 0) :
      packthreadkeep_SerialAhead.j1 6 s x y ((s + x) % 65536) (((s + x) % 65536 + y) % 65536) want = some true := by
    rw [packthreadkeep_SerialAhead.j1, order_eq 2 _ _ (by omega) (by omega) (by omega) (by omega)]
    simp only [Option.bind_some]
    rw [if_pos hw, order_eq 2 _ _ (by omega) (by omega) (by omega) (by omega)]
    simp only [Option.bind_some]
    rw [hw2, wrap64_id (by omega) (by omega), packthreadkeep_SerialAhead.j2, if_neg (by simp), wrap64_id (by omega) (by omega)]
    by_cases g : x + y ≥ 32768
    · rw [if_pos g]
    · rw [if_neg g, add_eq 1 _ _ (by omega) (by omega) (by omega) (by omega)]
      simp only [Option.bind_some]
      simp only [if_true]
      congr 1
      rw [beq_iff_eq]; omega
  by_cases hx : x > 0
  · rw [if_pos hx, wrap64_id (by omega) (by omega), show (((s + x) % 65536 - s) % 65536 + (s - (s + x) % 65536) % 65536 != 65536) = false from by rw [bne_eq_false_iff_eq]; omega]
    rw [packthreadkeep_SerialAhead.j0, if_neg (by decide), if_neg (by omega)]
    apply fin
    · unfold ord; rw [if_neg (by omega), if_neg (by omega), if_pos (by omega)]
    · unfold ord; rw [if_neg (by omega), if_neg (by omega), if_neg (by omega)]; rfl
    · decide
    · decide
  · rw [if_neg hx, packthreadkeep_SerialAhead.j0, if_neg (by decide), if_pos (by omega)]
    apply fin
    · unfold ord; rw [if_pos (by omega)]
    · unfold ord; rw [if_pos (by omega)]; rfl
    · decide
    · decide

end Go.Proofs.Ytfckgffeoepaaaa.Pure
