/- Printed by a program of this session (wip/myprint.py): Go functions of the law as Lean functions, and the proof that the code comes to these answers. -/
import Derived.Test.YtknpmpfcmgjpdaaPDeltaSmallx0
import Derived.Test.YtknpmpfcmgjpdaaPDeltaSmallx1
import Derived.Test.YtknpmpfcmgjpdaaPDeltaSmallx2
namespace Go.Proofs.Ytknpmpfcmgjpdaa.PDeltaSmall
open Go.RowKit Go.Proofs.YtknpmpfcmgjpdaaW.PrintWords Go.Proofs.YtknpmpfcmgjpdaaW.PrintLast Go.Proofs.YtknpmpfcmgjpdaaW.PrintMore
attribute [local go_sem] max2_int min2_int max_two min_two max_three min_three max_four min_four   -- for this text's walks alone
attribute [local go_sem] pn_setCell_drewN
set_option linter.unusedVariables false
set_option linter.unusedSimpArgs false

/-! ### packthreadkeep_DeltaSmall: function 3 -/
mutual
def packthreadkeep_DeltaSmall.j0 : Nat → List Int → List (S31) → Bool → Option (Bool)
  | 0, _, _, _ => none
  | k + 1, x11, x15, x79 => if x79 = true then (some false) else (packthreadkeep_DeltaSmall.l0 k x11 x15 0 0)
def packthreadkeep_DeltaSmall.l0 : Nat → List Int → List (S31) → Int → Int → Option (Bool)
  | 0, _, _, _, _ => none
  | k + 1, x11, x15, x17, x18 => if x18 < (x15.length : Int) then (if 0 ≤ x18 then (if (rd_T31 x15 x18).f0 = true then (if ((rd_T31 x15 x18).f2) < 8 then (some false) else (packthreadkeep_DeltaSmall.l0 k x11 x15 (wrap64 (x17 + (((rd_T31 x15 x18).f3).length : Int))) (wrap64 (x18 + 1)))) else (packthreadkeep_DeltaSmall.l0 k x11 x15 (wrap64 (x17 + (((rd_T31 x15 x18).f3).length : Int))) (wrap64 (x18 + 1)))) else (none)) else (some (decide (x17 ≤ (wrap64 ((x11.length : Int) + 14)))))
end
def packthreadkeep_DeltaSmall.f (k : Nat) (a0 : Int) (a1 : Int) (a2 : Int) (l3 : List Int) : Option (Bool) := (packthreadkeep_Picked.f a1 300).bind fun t111 => ((packthreadkeep_Stream.f k a0 (wrap64 (8 + t111))).bind fun t112 => ((packthreadkeep_Picked.f a2 (wrap64 ((t112.length : Int) + 1))).bind fun t115 => ((packthreadkeep_Octets.f l3 30).bind fun t116 => (if 0 ≤ t115 then (if t115 ≤ (t112.length : Int) then ((some (t112.take (t115 : Int).toNat : List Int)).bind fun y119 => (if ([] : List Int).length + y119.length < 140737488355328 then ((some (([] : List Int) ++ y119 : List Int)).bind fun y123 => (if y123.length + t116.length < 140737488355328 then ((some (y123 ++ t116 : List Int)).bind fun y126 => ((some (t112.drop (t115 : Int).toNat : List Int)).bind fun y129 => (if y126.length + y129.length < 140737488355328 then ((delta_Delta.f t112 t112).bind fun bt136 => ((delta_Delta.f t112 (y126 ++ y129)).bind fun bt140 => (if bt136.2 = 0 then (if bt140.2 = 0 then (if (bt136.1.length : Int) = 1 then (if 0 < (bt136.1.length : Int) then (if ((rd_T31 bt136.1 0).f2) = (t112.length : Int) then (packthreadkeep_DeltaSmall.j0 k t116 bt140.1 (((rd_T31 bt136.1 0).f1) != 0)) else (packthreadkeep_DeltaSmall.j0 k t116 bt140.1 true)) else (none)) else (packthreadkeep_DeltaSmall.j0 k t116 bt140.1 true)) else (packthreadkeep_DeltaSmall.j0 k t116 bt140.1 true)) else (packthreadkeep_DeltaSmall.j0 k t116 bt140.1 true)))) else (none)))) else (none))) else (none))) else (none)) else (none)))))
theorem packthreadkeep_DeltaSmall.mono_l : ∀ k, (∀ y0 y1 y2, LeO (packthreadkeep_DeltaSmall.j0 k y0 y1 y2) (packthreadkeep_DeltaSmall.j0 (k + 1) y0 y1 y2)) ∧ (∀ y0 y1 y2 y3, LeO (packthreadkeep_DeltaSmall.l0 k y0 y1 y2 y3) (packthreadkeep_DeltaSmall.l0 (k + 1) y0 y1 y2 y3))
  | 0 => ⟨fun _ _ _ r h => by simp [packthreadkeep_DeltaSmall.j0] at h, fun _ _ _ _ r h => by simp [packthreadkeep_DeltaSmall.l0] at h⟩
  | k + 1 => by
    obtain ⟨ih0, ih1⟩ := packthreadkeep_DeltaSmall.mono_l k
    refine ⟨?_, ?_⟩
    · intro y0 y1 y2
      unfold packthreadkeep_DeltaSmall.j0
      repeat' first
      | (with_reducible exact ih0 _ _ _)
      | (with_reducible exact ih1 _ _ _ _)
      | (with_reducible exact packthreadkeep_Stream.mono _ _ _)
      | (with_reducible exact LeO.refl _)
      | (with_reducible exact LeO.none _)
      | (with_reducible refine LeO.ite ?_ ?_)
      | (with_reducible refine LeO.bind ?_ (fun _ => ?_))
      | exact ih0 _ _ _
      | exact ih1 _ _ _ _
      | exact packthreadkeep_Stream.mono _ _ _
      | exact LeO.none _
      | refine LeO.ite ?_ ?_
      | refine LeO.bind ?_ (fun _ => ?_)
    · intro y0 y1 y2 y3
      unfold packthreadkeep_DeltaSmall.l0
      repeat' first
      | (with_reducible exact ih0 _ _ _)
      | (with_reducible exact ih1 _ _ _ _)
      | (with_reducible exact packthreadkeep_Stream.mono _ _ _)
      | (with_reducible exact LeO.refl _)
      | (with_reducible exact LeO.none _)
      | (with_reducible refine LeO.ite ?_ ?_)
      | (with_reducible refine LeO.bind ?_ (fun _ => ?_))
      | exact ih0 _ _ _
      | exact ih1 _ _ _ _
      | exact packthreadkeep_Stream.mono _ _ _
      | exact LeO.none _
      | refine LeO.ite ?_ ?_
      | refine LeO.bind ?_ (fun _ => ?_)
theorem packthreadkeep_DeltaSmall.mono : ∀ a0 a1 a2 a3 k, LeO (packthreadkeep_DeltaSmall.f k a0 a1 a2 a3) (packthreadkeep_DeltaSmall.f (k + 1) a0 a1 a2 a3) := by
  intro a0 a1 a2 a3 k
  obtain ⟨ih0, ih1⟩ := packthreadkeep_DeltaSmall.mono_l k
  unfold packthreadkeep_DeltaSmall.f
  repeat' first
      | (with_reducible exact ih0 _ _ _)
      | (with_reducible exact ih1 _ _ _ _)
      | (with_reducible exact packthreadkeep_Stream.mono _ _ _)
      | (with_reducible exact LeO.refl _)
      | (with_reducible exact LeO.none _)
      | (with_reducible refine LeO.ite ?_ ?_)
      | (with_reducible refine LeO.bind ?_ (fun _ => ?_))
      | exact ih0 _ _ _
      | exact ih1 _ _ _ _
      | exact packthreadkeep_Stream.mono _ _ _
      | exact LeO.none _
      | refine LeO.ite ?_ ?_
      | refine LeO.bind ?_ (fun _ => ?_)
def packthreadkeep_DeltaSmall.T4 : Bool × List (List Nat × List Nat) := (true, [([], []), ([], []), ([0, 1], [0, 1]), ([2], [2]), ([], []), ([3, 4, 3], [3, 4]), ([], []), ([], []), ([6, 7], [6, 7]), ([5, 8, 5], [5, 8]), ([9, 9, 0, 1, 2, 3, 4, 5, 6, 7, 8, 9], [9])])
def packthreadkeep_DeltaSmall.B4 : List Nat := [0, 0, 3, 7, 0, 31, 0, 0, 192, 511, 1023]
theorem packthreadkeep_DeltaSmall.tab4 : rtab .any (opsOf Try.f3 4) = packthreadkeep_DeltaSmall.T4 := by kernel_rfl
theorem packthreadkeep_DeltaSmall.bits4 : waitsOk packthreadkeep_DeltaSmall.T4.2 packthreadkeep_DeltaSmall.B4 = true := by kernel_rfl
set_option maxHeartbeats 8000000 in
set_option maxRecDepth 100000 in
theorem packthreadkeep_DeltaSmall.calls (k : Nat) (a0 : Int) (a1 : Int) (a2 : Int) (A3 : Option Addr) (c3 : Nat) (l3 : List Int) (r : Bool) (w : World) (hr3 : Kd.C (Kd.int .u8) w A3 l3.length l3) (hc3 : l3.length ≤ c3) (h : packthreadkeep_DeltaSmall.f k a0 a1 a2 l3 = some r) :
    Calls Try.prog 3 #[.int .i64 a0, .int .i64 a1, .int .i64 a2, .slice A3 l3.length c3] w fun e w' => e = .returned (.bool r) ∧ Below w.heap.size w w' := by
  have HR3 := Aside0.mk hr3
  have HC3 := Aside0.mk hc3
  clear hr3 hc3
  have HB := Aside0.mk (Below.refl w.heap.size w)
  have H : ((packthreadkeep_Picked.f a1 300).bind fun t111 => ((packthreadkeep_Stream.f k a0 (wrap64 (8 + t111))).bind fun t112 => ((packthreadkeep_Picked.f a2 (wrap64 ((t112.length : Int) + 1))).bind fun t115 => ((packthreadkeep_Octets.f l3 30).bind fun t116 => (if 0 ≤ t115 then (if t115 ≤ (t112.length : Int) then ((some (t112.take (t115 : Int).toNat : List Int)).bind fun y119 => (if ([] : List Int).length + y119.length < 140737488355328 then ((some (([] : List Int) ++ y119 : List Int)).bind fun y123 => (if y123.length + t116.length < 140737488355328 then ((some (y123 ++ t116 : List Int)).bind fun y126 => ((some (t112.drop (t115 : Int).toNat : List Int)).bind fun y129 => (if y126.length + y129.length < 140737488355328 then ((delta_Delta.f t112 t112).bind fun bt136 => ((delta_Delta.f t112 (y126 ++ y129)).bind fun bt140 => (if bt136.2 = 0 then (if bt140.2 = 0 then (if (bt136.1.length : Int) = 1 then (if 0 < (bt136.1.length : Int) then (if ((rd_T31 bt136.1 0).f2) = (t112.length : Int) then (packthreadkeep_DeltaSmall.j0 k t116 bt140.1 (((rd_T31 bt136.1 0).f1) != 0)) else (packthreadkeep_DeltaSmall.j0 k t116 bt140.1 true)) else (none)) else (packthreadkeep_DeltaSmall.j0 k t116 bt140.1 true)) else (packthreadkeep_DeltaSmall.j0 k t116 bt140.1 true)) else (packthreadkeep_DeltaSmall.j0 k t116 bt140.1 true)))) else (none)))) else (none))) else (none))) else (none)) else (none)))))) = some r := h
  clear h
  replace H := Option.bind_eq_some_iff.mp H
  obtain ⟨t111, A50, H⟩ := H
  replace H : ((packthreadkeep_Stream.f k a0 (wrap64 (8 + t111))).bind fun t112 => ((packthreadkeep_Picked.f a2 (wrap64 ((t112.length : Int) + 1))).bind fun t115 => ((packthreadkeep_Octets.f l3 30).bind fun t116 => (if 0 ≤ t115 then (if t115 ≤ (t112.length : Int) then ((some (t112.take (t115 : Int).toNat : List Int)).bind fun y119 => (if ([] : List Int).length + y119.length < 140737488355328 then ((some (([] : List Int) ++ y119 : List Int)).bind fun y123 => (if y123.length + t116.length < 140737488355328 then ((some (y123 ++ t116 : List Int)).bind fun y126 => ((some (t112.drop (t115 : Int).toNat : List Int)).bind fun y129 => (if y126.length + y129.length < 140737488355328 then ((delta_Delta.f t112 t112).bind fun bt136 => ((delta_Delta.f t112 (y126 ++ y129)).bind fun bt140 => (if bt136.2 = 0 then (if bt140.2 = 0 then (if (bt136.1.length : Int) = 1 then (if 0 < (bt136.1.length : Int) then (if ((rd_T31 bt136.1 0).f2) = (t112.length : Int) then (packthreadkeep_DeltaSmall.j0 k t116 bt140.1 (((rd_T31 bt136.1 0).f1) != 0)) else (packthreadkeep_DeltaSmall.j0 k t116 bt140.1 true)) else (none)) else (packthreadkeep_DeltaSmall.j0 k t116 bt140.1 true)) else (packthreadkeep_DeltaSmall.j0 k t116 bt140.1 true)) else (packthreadkeep_DeltaSmall.j0 k t116 bt140.1 true)))) else (none)))) else (none))) else (none))) else (none)) else (none))))) = some r := H
  have A5 := Aside0.mk A50
  clear A50
  replace H := Option.bind_eq_some_iff.mp H
  obtain ⟨t112, A60, H⟩ := H
  replace H : ((packthreadkeep_Picked.f a2 (wrap64 ((t112.length : Int) + 1))).bind fun t115 => ((packthreadkeep_Octets.f l3 30).bind fun t116 => (if 0 ≤ t115 then (if t115 ≤ (t112.length : Int) then ((some (t112.take (t115 : Int).toNat : List Int)).bind fun y119 => (if ([] : List Int).length + y119.length < 140737488355328 then ((some (([] : List Int) ++ y119 : List Int)).bind fun y123 => (if y123.length + t116.length < 140737488355328 then ((some (y123 ++ t116 : List Int)).bind fun y126 => ((some (t112.drop (t115 : Int).toNat : List Int)).bind fun y129 => (if y126.length + y129.length < 140737488355328 then ((delta_Delta.f t112 t112).bind fun bt136 => ((delta_Delta.f t112 (y126 ++ y129)).bind fun bt140 => (if bt136.2 = 0 then (if bt140.2 = 0 then (if (bt136.1.length : Int) = 1 then (if 0 < (bt136.1.length : Int) then (if ((rd_T31 bt136.1 0).f2) = (t112.length : Int) then (packthreadkeep_DeltaSmall.j0 k t116 bt140.1 (((rd_T31 bt136.1 0).f1) != 0)) else (packthreadkeep_DeltaSmall.j0 k t116 bt140.1 true)) else (none)) else (packthreadkeep_DeltaSmall.j0 k t116 bt140.1 true)) else (packthreadkeep_DeltaSmall.j0 k t116 bt140.1 true)) else (packthreadkeep_DeltaSmall.j0 k t116 bt140.1 true)))) else (none)))) else (none))) else (none))) else (none)) else (none)))) = some r := H
  have A6 := Aside0.mk A60
  clear A60
  replace H := Option.bind_eq_some_iff.mp H
  obtain ⟨t115, A70, H⟩ := H
  replace H : ((packthreadkeep_Octets.f l3 30).bind fun t116 => (if 0 ≤ t115 then (if t115 ≤ (t112.length : Int) then ((some (t112.take (t115 : Int).toNat : List Int)).bind fun y119 => (if ([] : List Int).length + y119.length < 140737488355328 then ((some (([] : List Int) ++ y119 : List Int)).bind fun y123 => (if y123.length + t116.length < 140737488355328 then ((some (y123 ++ t116 : List Int)).bind fun y126 => ((some (t112.drop (t115 : Int).toNat : List Int)).bind fun y129 => (if y126.length + y129.length < 140737488355328 then ((delta_Delta.f t112 t112).bind fun bt136 => ((delta_Delta.f t112 (y126 ++ y129)).bind fun bt140 => (if bt136.2 = 0 then (if bt140.2 = 0 then (if (bt136.1.length : Int) = 1 then (if 0 < (bt136.1.length : Int) then (if ((rd_T31 bt136.1 0).f2) = (t112.length : Int) then (packthreadkeep_DeltaSmall.j0 k t116 bt140.1 (((rd_T31 bt136.1 0).f1) != 0)) else (packthreadkeep_DeltaSmall.j0 k t116 bt140.1 true)) else (none)) else (packthreadkeep_DeltaSmall.j0 k t116 bt140.1 true)) else (packthreadkeep_DeltaSmall.j0 k t116 bt140.1 true)) else (packthreadkeep_DeltaSmall.j0 k t116 bt140.1 true)))) else (none)))) else (none))) else (none))) else (none)) else (none))) = some r := H
  have A7 := Aside0.mk A70
  clear A70
  replace H := Option.bind_eq_some_iff.mp H
  obtain ⟨t116, A80, H⟩ := H
  replace H : (if 0 ≤ t115 then (if t115 ≤ (t112.length : Int) then ((some (t112.take (t115 : Int).toNat : List Int)).bind fun y119 => (if ([] : List Int).length + y119.length < 140737488355328 then ((some (([] : List Int) ++ y119 : List Int)).bind fun y123 => (if y123.length + t116.length < 140737488355328 then ((some (y123 ++ t116 : List Int)).bind fun y126 => ((some (t112.drop (t115 : Int).toNat : List Int)).bind fun y129 => (if y126.length + y129.length < 140737488355328 then ((delta_Delta.f t112 t112).bind fun bt136 => ((delta_Delta.f t112 (y126 ++ y129)).bind fun bt140 => (if bt136.2 = 0 then (if bt140.2 = 0 then (if (bt136.1.length : Int) = 1 then (if 0 < (bt136.1.length : Int) then (if ((rd_T31 bt136.1 0).f2) = (t112.length : Int) then (packthreadkeep_DeltaSmall.j0 k t116 bt140.1 (((rd_T31 bt136.1 0).f1) != 0)) else (packthreadkeep_DeltaSmall.j0 k t116 bt140.1 true)) else (none)) else (packthreadkeep_DeltaSmall.j0 k t116 bt140.1 true)) else (packthreadkeep_DeltaSmall.j0 k t116 bt140.1 true)) else (packthreadkeep_DeltaSmall.j0 k t116 bt140.1 true)))) else (none)))) else (none))) else (none))) else (none)) else (none)) = some r := H
  have A8 := Aside0.mk A80
  clear A80
  by_cases c9 : 0 ≤ t115
  · rw [if_pos c9] at H
    have c9b0 := eq_true c9
    have c9b1 : decide (0 ≤ t115) = true := decide_eq_true c9
    clear c9
    by_cases c10 : t115 ≤ (t112.length : Int)
    · rw [if_pos c10] at H
      have c10b0 := eq_true c10
      have c10b1 : decide (t115 ≤ (t112.length : Int)) = true := decide_eq_true c10
      clear c10
      obtain ⟨y119, hy119⟩ : ∃ y_ : List Int, y_ = (t112.take (t115 : Int).toNat) := ⟨_, rfl⟩
      replace H : (if ([] : List Int).length + y119.length < 140737488355328 then ((some (([] : List Int) ++ y119 : List Int)).bind fun y123 => (if y123.length + t116.length < 140737488355328 then ((some (y123 ++ t116 : List Int)).bind fun y126 => ((some (t112.drop (t115 : Int).toNat : List Int)).bind fun y129 => (if y126.length + y129.length < 140737488355328 then ((delta_Delta.f t112 t112).bind fun bt136 => ((delta_Delta.f t112 (y126 ++ y129)).bind fun bt140 => (if bt136.2 = 0 then (if bt140.2 = 0 then (if (bt136.1.length : Int) = 1 then (if 0 < (bt136.1.length : Int) then (if ((rd_T31 bt136.1 0).f2) = (t112.length : Int) then (packthreadkeep_DeltaSmall.j0 k t116 bt140.1 (((rd_T31 bt136.1 0).f1) != 0)) else (packthreadkeep_DeltaSmall.j0 k t116 bt140.1 true)) else (none)) else (packthreadkeep_DeltaSmall.j0 k t116 bt140.1 true)) else (packthreadkeep_DeltaSmall.j0 k t116 bt140.1 true)) else (packthreadkeep_DeltaSmall.j0 k t116 bt140.1 true)))) else (none)))) else (none))) else (none)) = some r := by first | (rw [hy119]; with_reducible exact H) | (have H2_ := (Option.bind_some _ _).symm.trans H; rw [hy119]; with_reducible exact H2_) | (have H2_ := (Option.bind_some _ _).symm.trans H; with_reducible exact H2_) | with_reducible exact H | (rw [hy119]; exact H) | exact H
      have Ny119 := Aside0.mk hy119
      clear hy119
      by_cases c11 : ([] : List Int).length + y119.length < 140737488355328
      · rw [if_pos c11] at H
        have LMc11 := Aside0.mk c11
        clear c11
        obtain ⟨y123, hy123⟩ : ∃ y_ : List Int, y_ = (([] : List Int) ++ y119) := ⟨_, rfl⟩
        replace H : (if y123.length + t116.length < 140737488355328 then ((some (y123 ++ t116 : List Int)).bind fun y126 => ((some (t112.drop (t115 : Int).toNat : List Int)).bind fun y129 => (if y126.length + y129.length < 140737488355328 then ((delta_Delta.f t112 t112).bind fun bt136 => ((delta_Delta.f t112 (y126 ++ y129)).bind fun bt140 => (if bt136.2 = 0 then (if bt140.2 = 0 then (if (bt136.1.length : Int) = 1 then (if 0 < (bt136.1.length : Int) then (if ((rd_T31 bt136.1 0).f2) = (t112.length : Int) then (packthreadkeep_DeltaSmall.j0 k t116 bt140.1 (((rd_T31 bt136.1 0).f1) != 0)) else (packthreadkeep_DeltaSmall.j0 k t116 bt140.1 true)) else (none)) else (packthreadkeep_DeltaSmall.j0 k t116 bt140.1 true)) else (packthreadkeep_DeltaSmall.j0 k t116 bt140.1 true)) else (packthreadkeep_DeltaSmall.j0 k t116 bt140.1 true)))) else (none)))) else (none)) = some r := by first | (rw [hy123]; with_reducible exact H) | (have H2_ := (Option.bind_some _ _).symm.trans H; rw [hy123]; with_reducible exact H2_) | (have H2_ := (Option.bind_some _ _).symm.trans H; with_reducible exact H2_) | with_reducible exact H | (rw [hy123]; exact H) | exact H
        have Ny123 := Aside0.mk hy123
        clear hy123
        by_cases c12 : y123.length + t116.length < 140737488355328
        · rw [if_pos c12] at H
          have LMc12 := Aside0.mk c12
          clear c12
          obtain ⟨y126, hy126⟩ : ∃ y_ : List Int, y_ = (y123 ++ t116) := ⟨_, rfl⟩
          replace H : ((some (t112.drop (t115 : Int).toNat : List Int)).bind fun y129 => (if y126.length + y129.length < 140737488355328 then ((delta_Delta.f t112 t112).bind fun bt136 => ((delta_Delta.f t112 (y126 ++ y129)).bind fun bt140 => (if bt136.2 = 0 then (if bt140.2 = 0 then (if (bt136.1.length : Int) = 1 then (if 0 < (bt136.1.length : Int) then (if ((rd_T31 bt136.1 0).f2) = (t112.length : Int) then (packthreadkeep_DeltaSmall.j0 k t116 bt140.1 (((rd_T31 bt136.1 0).f1) != 0)) else (packthreadkeep_DeltaSmall.j0 k t116 bt140.1 true)) else (none)) else (packthreadkeep_DeltaSmall.j0 k t116 bt140.1 true)) else (packthreadkeep_DeltaSmall.j0 k t116 bt140.1 true)) else (packthreadkeep_DeltaSmall.j0 k t116 bt140.1 true)))) else (none))) = some r := by first | (rw [hy126]; with_reducible exact H) | (have H2_ := (Option.bind_some _ _).symm.trans H; rw [hy126]; with_reducible exact H2_) | (have H2_ := (Option.bind_some _ _).symm.trans H; with_reducible exact H2_) | with_reducible exact H | (rw [hy126]; exact H) | exact H
          have Ny126 := Aside0.mk hy126
          clear hy126
          have c13b0 := eq_true (of_decide_eq_true (by first | (with_reducible assumption) | assumption) : 0 ≤ t115)
          have c14b0 := eq_true (of_decide_eq_true (by first | (with_reducible assumption) | assumption) : t115 ≤ (t112.length : Int))
          obtain ⟨y129, hy129⟩ : ∃ y_ : List Int, y_ = (t112.drop (t115 : Int).toNat) := ⟨_, rfl⟩
          replace H : (if y126.length + y129.length < 140737488355328 then ((delta_Delta.f t112 t112).bind fun bt136 => ((delta_Delta.f t112 (y126 ++ y129)).bind fun bt140 => (if bt136.2 = 0 then (if bt140.2 = 0 then (if (bt136.1.length : Int) = 1 then (if 0 < (bt136.1.length : Int) then (if ((rd_T31 bt136.1 0).f2) = (t112.length : Int) then (packthreadkeep_DeltaSmall.j0 k t116 bt140.1 (((rd_T31 bt136.1 0).f1) != 0)) else (packthreadkeep_DeltaSmall.j0 k t116 bt140.1 true)) else (none)) else (packthreadkeep_DeltaSmall.j0 k t116 bt140.1 true)) else (packthreadkeep_DeltaSmall.j0 k t116 bt140.1 true)) else (packthreadkeep_DeltaSmall.j0 k t116 bt140.1 true)))) else (none)) = some r := by first | (rw [hy129]; with_reducible exact H) | (have H2_ := (Option.bind_some _ _).symm.trans H; rw [hy129]; with_reducible exact H2_) | (have H2_ := (Option.bind_some _ _).symm.trans H; with_reducible exact H2_) | with_reducible exact H | (rw [hy129]; exact H) | exact H
          have Ny129 := Aside0.mk hy129
          clear hy129
          by_cases c15 : y126.length + y129.length < 140737488355328
          · rw [if_pos c15] at H
            have LMc15 := Aside0.mk c15
            clear c15
            obtain ⟨y133, hy133⟩ : ∃ y_ : List Int, y_ = (y126 ++ y129) := ⟨_, rfl⟩
            replace H : ((delta_Delta.f t112 t112).bind fun bt136 => ((delta_Delta.f t112 y133).bind fun bt140 => (if bt136.2 = 0 then (if bt140.2 = 0 then (if (bt136.1.length : Int) = 1 then (if 0 < (bt136.1.length : Int) then (if ((rd_T31 bt136.1 0).f2) = (t112.length : Int) then (packthreadkeep_DeltaSmall.j0 k t116 bt140.1 (((rd_T31 bt136.1 0).f1) != 0)) else (packthreadkeep_DeltaSmall.j0 k t116 bt140.1 true)) else (none)) else (packthreadkeep_DeltaSmall.j0 k t116 bt140.1 true)) else (packthreadkeep_DeltaSmall.j0 k t116 bt140.1 true)) else (packthreadkeep_DeltaSmall.j0 k t116 bt140.1 true)))) = some r := by first | (rw [hy133]; with_reducible exact H) | (have H2_ := (Option.bind_some _ _).symm.trans H; rw [hy133]; with_reducible exact H2_) | (have H2_ := (Option.bind_some _ _).symm.trans H; with_reducible exact H2_) | with_reducible exact H | (rw [hy133]; exact H) | exact H
            have Ny133 := Aside0.mk hy133
            clear hy133
            replace H := Option.bind_eq_some_iff.mp H
            obtain ⟨⟨t136, t137⟩, A160, H⟩ := H
            replace H : ((delta_Delta.f t112 y133).bind fun bt140 => (if t137 = 0 then (if bt140.2 = 0 then (if (t136.length : Int) = 1 then (if 0 < (t136.length : Int) then (if ((rd_T31 t136 0).f2) = (t112.length : Int) then (packthreadkeep_DeltaSmall.j0 k t116 bt140.1 (((rd_T31 t136 0).f1) != 0)) else (packthreadkeep_DeltaSmall.j0 k t116 bt140.1 true)) else (none)) else (packthreadkeep_DeltaSmall.j0 k t116 bt140.1 true)) else (packthreadkeep_DeltaSmall.j0 k t116 bt140.1 true)) else (packthreadkeep_DeltaSmall.j0 k t116 bt140.1 true))) = some r := H
            have A16 := Aside0.mk A160
            clear A160
            replace H := Option.bind_eq_some_iff.mp H
            obtain ⟨⟨t140, t141⟩, A170, H⟩ := H
            replace H : (if t137 = 0 then (if t141 = 0 then (if (t136.length : Int) = 1 then (if 0 < (t136.length : Int) then (if ((rd_T31 t136 0).f2) = (t112.length : Int) then (packthreadkeep_DeltaSmall.j0 k t116 t140 (((rd_T31 t136 0).f1) != 0)) else (packthreadkeep_DeltaSmall.j0 k t116 t140 true)) else (none)) else (packthreadkeep_DeltaSmall.j0 k t116 t140 true)) else (packthreadkeep_DeltaSmall.j0 k t116 t140 true)) else (packthreadkeep_DeltaSmall.j0 k t116 t140 true)) = some r := H
            have A17 := Aside0.mk A170
            clear A170
            have HC18 := Aside0.mk H
            clear H
            go_enter Try.func3, Try.ntmps3
            try go_wp2_with (first | ((with_reducible refine gate_callee (f := 14) rfl ?_); refine goesL_ (some 21) rfl rfl Try.func14 (by kernel_rfl) rfl #[.int .i64 a1, .int .i64 300] rfl (by (try simp only [List.map_toArray, List.map_cons, List.map_nil]); first | done | rfl | (simp only [List.length_drop, List.length_take]; rfl)) ?_; (with_reducible refine (packthreadkeep_Picked.calls a1 300 t111 _ A5.out).mono ?_); rintro e w' ⟨rfl, ⟨nd, rfl⟩⟩; refine ⟨_, rfl, ?_⟩) | ((with_reducible refine gate_callee (f := 13) rfl ?_); refine goesL_ (some 23) rfl rfl Try.func13 (by kernel_rfl) rfl #[.int .i64 a0, .int .i64 (wrap64 (8 + t111))] rfl (by (try simp only [List.map_toArray, List.map_cons, List.map_nil]); first | done | rfl | (simp only [List.length_drop, List.length_take]; rfl)) ?_; (with_reducible refine (packthreadkeep_Stream.calls k a0 (wrap64 (8 + t111)) t112 _ A6.out).mono ?_); rintro e w19 ⟨v113, rfl, ho0, hb⟩; refine ⟨_, rfl, ?_⟩; have n0_ := Aside0.mk (Kd.R_lower ho0 (below_size (by repeat (first | (with_reducible first | exact HB.out | apply below_alloc | apply pw_below_drewN | apply below_drew1) | exact HB.out)))); have n1_ := Aside0.mk (below_step (by repeat (first | (with_reducible first | exact HB.out | apply below_alloc | apply pw_below_drewN | apply below_drew1) | exact HB.out)) hb); clear HB; have HO114 := n0_; have HB := n1_; clear n0_ n1_; (try clear hb); (try clear hb2); (try clear hk); (try clear hi); (try clear ho0); obtain ⟨Ao20, co20, eo20⟩ := Kd.R_slice HO114.out; subst eo20) | ((with_reducible refine gate_callee (f := 14) rfl ?_); refine goesL_ (some 28) rfl rfl Try.func14 (by kernel_rfl) rfl #[.int .i64 a2, .int .i64 (wrap64 ((t112.length : Int) + 1))] rfl (by (try simp only [List.map_toArray, List.map_cons, List.map_nil]); first | done | rfl | (simp only [List.length_drop, List.length_take]; rfl)) ?_; (with_reducible refine (packthreadkeep_Picked.calls a2 (wrap64 ((t112.length : Int) + 1)) t115 _ A7.out).mono ?_); rintro e w' ⟨rfl, ⟨nd, rfl⟩⟩; refine ⟨_, rfl, ?_⟩) | ((with_reducible refine gate_callee (f := 15) rfl ?_); refine goesL_ (some 30) rfl rfl Try.func15 (by kernel_rfl) rfl #[.slice A3 l3.length c3, .int .i64 30] rfl (by (try simp only [List.map_toArray, List.map_cons, List.map_nil]); first | done | rfl | (simp only [List.length_drop, List.length_take]; rfl)) ?_; (with_reducible refine (packthreadkeep_Octets.calls _ _ l3 30 t116 _ ?side1 ?side2 A8.out).mono ?_); (case side1 => repeat (first | exact (Kd.C_below HR3.out (by repeat (first | (with_reducible first | exact HB.out | apply below_alloc | apply pw_below_drewN | apply below_drew1) | exact HB.out))) | (with_reducible refine Kd.C_alloc ?_ _) | (with_reducible refine Kd.C_drewN ?_ _) | (with_reducible refine Kd.C_drew ?_))); (case side2 => exact HC3.out); rintro e w21 ⟨v117, rfl, ho0, hb⟩; refine ⟨_, rfl, ?_⟩; have n0_ := Aside0.mk (Kd.R_elder' (by (with_reducible repeat (first | apply Kd.R_alloc | apply Kd.R_drewN | apply Kd.R_drew)); exact HO114.out) (Kd.R_base ho0) hb); have n1_ := Aside0.mk (Kd.R_lower (Kd.R_new' ho0 (Kd.R_lt (by (with_reducible repeat (first | apply Kd.R_alloc | apply Kd.R_drewN | apply Kd.R_drew)); exact HO114.out))) (below_size (by repeat (first | (with_reducible first | exact HB.out | apply below_alloc | apply pw_below_drewN | apply below_drew1) | exact HB.out)))); have n2_ := Aside0.mk (below_step (by repeat (first | (with_reducible first | exact HB.out | apply below_alloc | apply pw_below_drewN | apply below_drew1) | exact HB.out)) hb); clear HO114; clear HB; have HO114 := n0_; have HO118 := n1_; have HB := n2_; clear n0_ n1_ n2_; (try clear hb); (try clear hb2); (try clear hk); (try clear hi); (try clear ho0)))
            have n0_ := Aside0.mk (Kd.R_drew HO114.out)
            have n1_ := Aside0.mk (Kd.R_drew HO118.out)
            have n2_ := Aside0.mk (below_drew1 HB.out)
            clear HO114
            clear HO118
            clear HB
            have HO114 := n0_
            have HO118 := n1_
            have HB := n2_
            clear n0_ n1_ n2_
            have q23 : (t115 : Int) ≤ ((t112.length : Int) : Int) := of_decide_eq_true (by first | (with_reducible assumption) | assumption)
            obtain ⟨i023, hi023, _, hsz23, _⟩ := info_parts info5
            have hroom23 : t112.length ≤ co20 := (Kd.R_reads' HO114.out).2.1
            have hC23 : Kd.C (Kd.int .u8) _ Ao20 t112.length t112 := (Kd.R_reads' HO114.out).2.2
            have hcut23 := cut_to (P := Try.prog) 22 5 .i64 Try.underlying22 hi023 Ao20 t112.length co20 t115 (of_decide_eq_true (by first | (with_reducible assumption) | assumption)) q23 hroom23
            have hr23 := Kd.C_take (m := (t115 : Int).toNat) hC23 (by omega)
            have hy23 : y119.length = (t115 : Int).toNat := (by rw [Ny119.out, List.length_take]; omega)
            rw [← Ny119.out] at hr23
            rw [← hy23] at hcut23
            have HR122 := Aside0.mk hr23
            have HC122 := Aside0.mk (show y119.length ≤ co20 from by omega)
            clear hr23 hC23 hroom23 hi023 hsz23
            have KY23 := Aside0.mk hy23
            clear hy23
            have KL23 := Aside0.mk (show (t115 : Int).toNat ≤ t112.length from by omega)
            replace q23 := eq_true q23
            have q24 : (t115 : Int) ≤ ((t112.length : Int) : Int) := of_decide_eq_true (by first | (with_reducible assumption) | assumption)
            obtain ⟨i024, hi024, _, hsz24, _⟩ := info_parts info5
            have hroom24 : t112.length ≤ co20 := (Kd.R_reads' HO114.out).2.1
            have hC24 : Kd.C (Kd.int .u8) _ Ao20 t112.length t112 := (Kd.R_reads' HO114.out).2.2
            have q024 : (0 : Int) ≤ (t115 : Int) := of_decide_eq_true (by first | (with_reducible assumption) | assumption)
            have hcut24 := cut_from (P := Try.prog) 22 5 .i64 Try.underlying22 hi024 1 hsz24 Ao20 t112.length co20 t115 q024 q24
            have hr24 := Kd.C_drop (m := (t115 : Int).toNat) (c := co20) hC24 (by omega) hroom24
            obtain ⟨A24, hA24⟩ : ∃ A1, A1 = (if co20 = (t115 : Int).toNat then Ao20 else (Ao20 : Option Addr).map (·.add ((t115 : Int).toNat * 1))) := ⟨_, rfl⟩
            obtain ⟨c24, hc24⟩ : ∃ c1, c1 = co20 - (t115 : Int).toNat := ⟨_, rfl⟩
            have hy24 : y129.length = t112.length - (t115 : Int).toNat := (by rw [Ny129.out, List.length_drop] <;> omega)
            rw [show (t112).drop (t115 : Int).toNat = y129 from Ny129.out.symm] at hr24
            replace hr24 : Kd.C (Kd.int .u8) _ A24 y129.length y129 := (by rw [hA24]; exact hr24)
            rw [← hy24, ← hA24, ← hc24] at hcut24
            have HR132 := Aside0.mk hr24
            have HC132 := Aside0.mk (show y129.length ≤ c24 from by rw [hy24, hc24]; exact Nat.sub_le_sub_right hroom24 _)
            clear hr24 hC24 hroom24 hi024 hsz24 hc24
            have KY24 := Aside0.mk hy24
            have KA24 := Aside0.mk hA24
            clear hy24 hA24
            have KL24 := Aside0.mk (show (t115 : Int).toNat ≤ t112.length from by omega)
            replace q24 := eq_true q24
            refine start_ (n := 11) (S := fun w' => True) (ds := []) #[false, false, false, false, false, false, false, false, false, false, false] (by kernel_rfl) rfl rfl trivial (fun hHeld => ?_); refine with_tabW packthreadkeep_DeltaSmall.tab4 packthreadkeep_DeltaSmall.bits4 (fun HT_ HW_ => ?_)
            generalize w21.drew = w22 at HO114 HO118 HB HR122 HR132 hHeld ⊢
            refine pure_ (i := 0) (N := some 31) (v := ?_) (a' := ?_) #[true, false, false, false, false, false, false, false, false, false, false] rfl rfl (any_of HT_.out (by kernel_rfl)) (fun _ _ _ h => h) (Or.inl ⟨by rfl, ?_⟩) ?_ ?_
            rotate_left
            · intro w'
              go_simp
              with_reducible rfl
            rotate_left
            · simp only [Act.put, List.setIfInBounds_toArray, List.set_cons_zero, List.set_cons_succ, i64_w, i32_w]
              rfl
            refine pure_ (i := 1) (N := some 32) (v := ?_) (a' := ?_) #[true, true, false, false, false, false, false, false, false, false, false] rfl rfl (any_of HT_.out (by kernel_rfl)) (fun _ _ _ h => h) (Or.inl ⟨by rfl, ?_⟩) ?_ ?_
            rotate_left
            · intro w'
              go_simp
              with_reducible rfl
            rotate_left
            · simp only [Act.put, List.setIfInBounds_toArray, List.set_cons_zero, List.set_cons_succ, i64_w, i32_w]
              rfl
            refine pure_ (i := 2) (N := some 33) (v := ?_) (a' := ?_) #[true, true, true, false, false, false, false, false, false, false, false] rfl rfl (any_of HT_.out (by kernel_rfl)) (fun _ _ _ h => h) (Or.inl ⟨by rfl, ?_⟩) ?_ ?_
            rotate_left
            · intro w'
              go_simp
              with_reducible rfl
            rotate_left
            · simp only [Act.put, List.setIfInBounds_toArray, List.set_cons_zero, List.set_cons_succ, i64_w, i32_w]
              rfl
            refine pure_ (i := 4) (N := some 35) (v := ?_) (a' := ?_) #[true, true, true, false, true, false, false, false, false, false, false] rfl rfl (any_of HT_.out (by kernel_rfl)) (fun _ _ _ h => h) (Or.inl ⟨by rfl, ?_⟩) ?_ ?_
            rotate_left
            · intro w'
              go_simp
              with_reducible rfl
            rotate_left
            · simp only [Act.put, List.setIfInBounds_toArray, List.set_cons_zero, List.set_cons_succ, i64_w, i32_w]
              rfl
            refine pure_ (i := 6) (N := some 37) (v := ?_) (a' := ?_) #[true, true, true, false, true, false, true, false, false, false, false] rfl rfl (any_of HT_.out (by kernel_rfl)) (fun _ _ _ h => h) (Or.inl ⟨by rfl, ?_⟩) ?_ ?_
            rotate_left
            · intro w'
              go_simp
              with_reducible rfl
            rotate_left
            · simp only [Act.put, List.setIfInBounds_toArray, List.set_cons_zero, List.set_cons_succ, i64_w, i32_w]
              rfl
            refine pure_ (i := 7) (N := some 38) (v := ?_) (a' := ?_) #[true, true, true, false, true, false, true, true, false, false, false] rfl rfl (any_of HT_.out (by kernel_rfl)) (fun _ _ _ h => h) (Or.inl ⟨by rfl, ?_⟩) ?_ ?_
            rotate_left
            · intro w'
              go_simp
              with_reducible rfl
            rotate_left
            · simp only [Act.put, List.setIfInBounds_toArray, List.set_cons_zero, List.set_cons_succ, i64_w, i32_w]
              rfl
            refine pure_ (i := 8) (N := some 39) (v := ?_) (a' := ?_) #[true, true, true, false, true, false, true, true, true, false, false] rfl rfl (any_of HT_.out (by kernel_rfl)) (fun _ _ _ h => h) (Or.inl ⟨by rfl, ?_⟩) ?_ ?_
            rotate_left
            · intro w'
              go_simp
              with_reducible rfl
            rotate_left
            · simp only [Act.put, List.setIfInBounds_toArray, List.set_cons_zero, List.set_cons_succ, i64_w, i32_w]
              rfl
            refine one_ (i := 3) (N := some 34) #[true, true, true, true, true, false, true, true, true, false, false] rfl rfl (one_of HT_.out (by kernel_rfl)) (by decide) (fun K hK => ?_)
            refine Kd.R_append_rows_step (Kd.int .u8) (w0 := w) w.heap.size (by rfl) (.const (.slice none 0 0)) (.tmp 33) 22 5 (.int .u8 0) 1 rfl Try.underlying22 info5 rfl (by decide) (by omega) (.slice none 0 0) ([] : List Int) y119 _ _ _ (fun k_ => some k_ ≠ (.slice Ao20 t112.length co20 : Value).ownBlock ∧ some k_ ≠ (v117 : Value).ownBlock) (fun _ => False) rfl rfl ?aO ?aR (fun _ _ h => h) (fun _ h => h.elim) ?aF ?aB ?aS ?aL ?_
            (case aR => repeat (first | exact (by repeat (first | (with_reducible exact HR122.out) | (with_reducible refine Kd.C_alloc ?_ _) | (with_reducible refine Kd.C_drewN ?_ _) | (with_reducible refine Kd.C_drew ?_) | exact HR122.out)) | (with_reducible refine Kd.C_alloc ?_ _) | (with_reducible refine Kd.C_drewN ?_ _) | (with_reducible refine Kd.C_drew ?_)))
            (case aB => exact (by repeat (first | (with_reducible first | exact HB.out | apply below_alloc | apply pw_below_drewN | apply below_drew1) | exact HB.out)))
            (case aF => exact (fun k_ hk => ⟨Kd.fresh' (Kd.R_lt (by (with_reducible repeat (first | apply Kd.R_alloc | apply Kd.R_drewN | apply Kd.R_drew)); exact HO114.out)) k_ hk, Kd.fresh' (Kd.R_lt (by (with_reducible repeat (first | apply Kd.R_alloc | apply Kd.R_drewN | apply Kd.R_drew)); exact HO118.out)) k_ hk⟩))
            (case aO => exact ((Kd.R_nil _ _ _ _ (fun k_ => some k_ ≠ (.slice Ao20 t112.length co20 : Value).ownBlock ∧ some k_ ≠ (v117 : Value).ownBlock))))
            (case aS => exact (below_size (by repeat (first | (with_reducible first | exact HB.out | apply below_alloc | apply pw_below_drewN | apply below_drew1) | exact HB.out))))
            (case aL => have := LMc11.out; omega)
            intro v124 w25 ho hb hg hat
            rw [← Ny123.out] at ho
            have n0_ := Aside0.mk (Kd.R_after (Kd.R_apart_nil (by (with_reducible repeat (first | apply Kd.R_alloc | apply Kd.R_drewN | apply Kd.R_drew)); exact HO114.out)) hg hat)
            have n1_ := Aside0.mk (Kd.R_after (Kd.R_apart_nil (by (with_reducible repeat (first | apply Kd.R_alloc | apply Kd.R_drewN | apply Kd.R_drew)); exact HO118.out)) hg hat)
            have n2_ := Aside0.mk (hb)
            have n3_ := Aside0.mk ((show Kd.C (Kd.int .u8) w25 Ao20 y119.length y119 from by rw [Ny119.out]; exact Kd.C_take (m := (t115 : Int).toNat) ((Kd.R_reads' (Kd.R_after (Kd.R_apart_nil (by (with_reducible repeat (first | apply Kd.R_alloc | apply Kd.R_drewN | apply Kd.R_drew)); exact HO114.out)) hg hat)).2.2) KL23.out))
            have n4_ := Aside0.mk ((show Kd.C (Kd.int .u8) w25 A24 y129.length y129 from by rw [Ny129.out, KA24.out]; exact Kd.C_drop (m := (t115 : Int).toNat) (c := co20) ((Kd.R_reads' (Kd.R_after (Kd.R_apart_nil (by (with_reducible repeat (first | apply Kd.R_alloc | apply Kd.R_drewN | apply Kd.R_drew)); exact HO114.out)) hg hat)).2.2) KL24.out ((Kd.R_reads' (Kd.R_after (Kd.R_apart_nil (by (with_reducible repeat (first | apply Kd.R_alloc | apply Kd.R_drewN | apply Kd.R_drew)); exact HO114.out)) hg hat)).2.1)))
            have n5_ := Aside0.mk (ho)
            clear HO114
            clear HO118
            clear HB
            clear HR122
            clear HR132
            have HO114 := n0_
            have HO118 := n1_
            have HB := n2_
            have HR122 := n3_
            have HR132 := n4_
            have HO125 := n5_
            clear n0_ n1_ n2_ n3_ n4_ n5_
            clear ho hb hg hat
            obtain ⟨Ao27, co27, eo27⟩ := Kd.R_slice HO118.out
            (first | subst eo27 | (injection eo27 with f1_ f2_ f3_; have f4_ := f1_.symm; have f5_ := f3_.symm; clear f1_ f2_ f3_; subst f4_; subst f5_))
            refine hK.out _ _ trivial (fun hHeld => ?_)
            clear hK K
            refine norm_ (a' := ?_) ?_ ?_
            rotate_left
            · show Act.put _ (some 34) _ = _
              simp only [Act.put, List.setIfInBounds_toArray, List.set_cons_zero, List.set_cons_succ, i64_w, i32_w]
              rfl
            refine one_ (i := 5) (N := some 36) #[true, true, true, true, true, true, true, true, true, false, false] rfl rfl (one_of HT_.out (by kernel_rfl)) (by decide) (fun K hK => ?_)
            refine Kd.R_append_rows_step (Kd.int .u8) (w0 := w) w.heap.size (by rfl) (.tmp 34) (.tmp 35) 22 5 (.int .u8 0) 1 rfl Try.underlying22 info5 rfl (by decide) (by omega) v124 y123 t116 _ _ _ (fun k_ => some k_ ≠ (.slice Ao20 t112.length co20 : Value).ownBlock ∧ some k_ ≠ (.slice Ao27 t116.length co27 : Value).ownBlock) (fun _ => False) rfl rfl ?aO ?aR (fun _ _ h => h) (fun _ h => h.elim) ?aF ?aB ?aS ?aL ?_
            (case aR => repeat (first | exact (Kd.R_reads' HO118.out).2.2 | (with_reducible refine Kd.C_alloc ?_ _) | (with_reducible refine Kd.C_drewN ?_ _) | (with_reducible refine Kd.C_drew ?_)))
            (case aB => exact (by repeat (first | (with_reducible first | exact HB.out | apply below_alloc | apply pw_below_drewN | apply below_drew1) | exact HB.out)))
            (case aF => exact (fun k_ hk => ⟨Kd.fresh' (Kd.R_lt (by (with_reducible repeat (first | apply Kd.R_alloc | apply Kd.R_drewN | apply Kd.R_drew)); exact HO114.out)) k_ hk, Kd.fresh' (Kd.R_lt (by (with_reducible repeat (first | apply Kd.R_alloc | apply Kd.R_drewN | apply Kd.R_drew)); exact HO118.out)) k_ hk⟩))
            (case aO => exact (by (with_reducible repeat (first | apply Kd.R_alloc | apply Kd.R_drewN | apply Kd.R_drew)); exact HO125.out))
            (case aS => exact (below_size (by repeat (first | (with_reducible first | exact HB.out | apply below_alloc | apply pw_below_drewN | apply below_drew1) | exact HB.out))))
            (case aL => have := LMc12.out; omega)
            intro v127 w26 ho hb hg hat
            rw [← Ny126.out] at ho
            have n0_ := Aside0.mk (Kd.R_after (ok := (fun k_ => some k_ ≠ (.slice Ao27 t116.length co27 : Value).ownBlock)) (by (with_reducible repeat (first | apply Kd.R_alloc | apply Kd.R_drewN | apply Kd.R_drew)); exact Kd.R_mono HO114.out (fun _ hk => by first | exact ⟨hk.1.2, hk.2⟩ | (and_intros <;> first | exact hk | exact hk.1 | exact hk.2 | exact hk.1.1 | exact hk.1.2 | exact hk.2.1 | exact hk.2.2 | exact hk.1.1.1 | exact hk.1.1.2 | exact hk.2.2.1 | exact hk.2.2.2))) hg hat)
            have n1_ := Aside0.mk (Kd.R_after (ok := (fun k_ => some k_ ≠ (.slice Ao20 t112.length co20 : Value).ownBlock)) (by (with_reducible repeat (first | apply Kd.R_alloc | apply Kd.R_drewN | apply Kd.R_drew)); exact Kd.R_mono HO118.out (fun _ hk => by first | exact ⟨hk.1.2, hk.2⟩ | (and_intros <;> first | exact hk | exact hk.1 | exact hk.2 | exact hk.1.1 | exact hk.1.2 | exact hk.2.1 | exact hk.2.2 | exact hk.1.1.1 | exact hk.1.1.2 | exact hk.2.2.1 | exact hk.2.2.2))) hg hat)
            have n2_ := Aside0.mk (hb)
            have n3_ := Aside0.mk ((show Kd.C (Kd.int .u8) w26 Ao20 y119.length y119 from by rw [Ny119.out]; exact Kd.C_take (m := (t115 : Int).toNat) ((Kd.R_reads' (Kd.R_after (ok := (fun k_ => some k_ ≠ (.slice Ao27 t116.length co27 : Value).ownBlock)) (by (with_reducible repeat (first | apply Kd.R_alloc | apply Kd.R_drewN | apply Kd.R_drew)); exact Kd.R_mono HO114.out (fun _ hk => by first | exact ⟨hk.1.2, hk.2⟩ | (and_intros <;> first | exact hk | exact hk.1 | exact hk.2 | exact hk.1.1 | exact hk.1.2 | exact hk.2.1 | exact hk.2.2 | exact hk.1.1.1 | exact hk.1.1.2 | exact hk.2.2.1 | exact hk.2.2.2))) hg hat)).2.2) KL23.out))
            have n4_ := Aside0.mk ((show Kd.C (Kd.int .u8) w26 A24 y129.length y129 from by rw [Ny129.out, KA24.out]; exact Kd.C_drop (m := (t115 : Int).toNat) (c := co20) ((Kd.R_reads' (Kd.R_after (ok := (fun k_ => some k_ ≠ (.slice Ao27 t116.length co27 : Value).ownBlock)) (by (with_reducible repeat (first | apply Kd.R_alloc | apply Kd.R_drewN | apply Kd.R_drew)); exact Kd.R_mono HO114.out (fun _ hk => by first | exact ⟨hk.1.2, hk.2⟩ | (and_intros <;> first | exact hk | exact hk.1 | exact hk.2 | exact hk.1.1 | exact hk.1.2 | exact hk.2.1 | exact hk.2.2 | exact hk.1.1.1 | exact hk.1.1.2 | exact hk.2.2.1 | exact hk.2.2.2))) hg hat)).2.2) KL24.out ((Kd.R_reads' (Kd.R_after (ok := (fun k_ => some k_ ≠ (.slice Ao27 t116.length co27 : Value).ownBlock)) (by (with_reducible repeat (first | apply Kd.R_alloc | apply Kd.R_drewN | apply Kd.R_drew)); exact Kd.R_mono HO114.out (fun _ hk => by first | exact ⟨hk.1.2, hk.2⟩ | (and_intros <;> first | exact hk | exact hk.1 | exact hk.2 | exact hk.1.1 | exact hk.1.2 | exact hk.2.1 | exact hk.2.2 | exact hk.1.1.1 | exact hk.1.1.2 | exact hk.2.2.1 | exact hk.2.2.2))) hg hat)).2.1)))
            have n5_ := Aside0.mk (ho)
            clear HO114
            clear HO118
            clear HB
            clear HR122
            clear HR132
            clear HO125
            have HO114 := n0_
            have HO118 := n1_
            have HB := n2_
            have HR122 := n3_
            have HR132 := n4_
            have HO128 := n5_
            clear n0_ n1_ n2_ n3_ n4_ n5_
            clear ho hb hg hat
            refine hK.out _ _ trivial (fun hHeld => ?_)
            clear hK K
            refine norm_ (a' := ?_) ?_ ?_
            rotate_left
            · show Act.put _ (some 36) _ = _
              simp only [Act.put, List.setIfInBounds_toArray, List.set_cons_zero, List.set_cons_succ, i64_w, i32_w]
              rfl
            refine one_ (i := 9) (N := some 40) #[true, true, true, true, true, true, true, true, true, true, false] rfl rfl (one_of HT_.out (by kernel_rfl)) (by decide) (fun K hK => ?_)
            refine Kd.R_append_rows_step (Kd.int .u8) (w0 := w) w.heap.size (by rfl) (.tmp 36) (.tmp 39) 22 5 (.int .u8 0) 1 rfl Try.underlying22 info5 rfl (by decide) (by omega) v127 y126 y129 _ _ _ (fun k_ => some k_ ≠ (.slice Ao20 t112.length co20 : Value).ownBlock ∧ some k_ ≠ (.slice Ao27 t116.length co27 : Value).ownBlock) (fun _ => False) rfl rfl ?aO ?aR (fun _ _ h => h) (fun _ h => h.elim) ?aF ?aB ?aS ?aL ?_
            (case aR => repeat (first | exact (by repeat (first | (with_reducible exact HR132.out) | (with_reducible refine Kd.C_alloc ?_ _) | (with_reducible refine Kd.C_drewN ?_ _) | (with_reducible refine Kd.C_drew ?_) | exact HR132.out)) | (with_reducible refine Kd.C_alloc ?_ _) | (with_reducible refine Kd.C_drewN ?_ _) | (with_reducible refine Kd.C_drew ?_)))
            (case aB => exact (by repeat (first | (with_reducible first | exact HB.out | apply below_alloc | apply pw_below_drewN | apply below_drew1) | exact HB.out)))
            (case aF => exact (fun k_ hk => ⟨Kd.fresh' (Kd.R_lt (by (with_reducible repeat (first | apply Kd.R_alloc | apply Kd.R_drewN | apply Kd.R_drew)); exact HO114.out)) k_ hk, Kd.fresh' (Kd.R_lt (by (with_reducible repeat (first | apply Kd.R_alloc | apply Kd.R_drewN | apply Kd.R_drew)); exact HO118.out)) k_ hk⟩))
            (case aO => exact (by (with_reducible repeat (first | apply Kd.R_alloc | apply Kd.R_drewN | apply Kd.R_drew)); exact HO128.out))
            (case aS => exact (below_size (by repeat (first | (with_reducible first | exact HB.out | apply below_alloc | apply pw_below_drewN | apply below_drew1) | exact HB.out))))
            (case aL => have := LMc15.out; omega)
            intro v134 w28 ho hb hg hat
            rw [← Ny133.out] at ho
            have n0_ := Aside0.mk (Kd.R_after (ok := (fun k_ => some k_ ≠ (.slice Ao27 t116.length co27 : Value).ownBlock)) (by (with_reducible repeat (first | apply Kd.R_alloc | apply Kd.R_drewN | apply Kd.R_drew)); exact HO114.out) hg hat)
            have n1_ := Aside0.mk (Kd.R_after (ok := (fun k_ => some k_ ≠ (.slice Ao20 t112.length co20 : Value).ownBlock)) (by (with_reducible repeat (first | apply Kd.R_alloc | apply Kd.R_drewN | apply Kd.R_drew)); exact HO118.out) hg hat)
            have n2_ := Aside0.mk (hb)
            have n3_ := Aside0.mk ((show Kd.C (Kd.int .u8) w28 Ao20 y119.length y119 from by rw [Ny119.out]; exact Kd.C_take (m := (t115 : Int).toNat) ((Kd.R_reads' (Kd.R_after (ok := (fun k_ => some k_ ≠ (.slice Ao27 t116.length co27 : Value).ownBlock)) (by (with_reducible repeat (first | apply Kd.R_alloc | apply Kd.R_drewN | apply Kd.R_drew)); exact HO114.out) hg hat)).2.2) KL23.out))
            have n4_ := Aside0.mk ((show Kd.C (Kd.int .u8) w28 A24 y129.length y129 from by rw [Ny129.out, KA24.out]; exact Kd.C_drop (m := (t115 : Int).toNat) (c := co20) ((Kd.R_reads' (Kd.R_after (ok := (fun k_ => some k_ ≠ (.slice Ao27 t116.length co27 : Value).ownBlock)) (by (with_reducible repeat (first | apply Kd.R_alloc | apply Kd.R_drewN | apply Kd.R_drew)); exact HO114.out) hg hat)).2.2) KL24.out ((Kd.R_reads' (Kd.R_after (ok := (fun k_ => some k_ ≠ (.slice Ao27 t116.length co27 : Value).ownBlock)) (by (with_reducible repeat (first | apply Kd.R_alloc | apply Kd.R_drewN | apply Kd.R_drew)); exact HO114.out) hg hat)).2.1)))
            have n5_ := Aside0.mk (ho)
            clear HO114
            clear HO118
            clear HB
            clear HR122
            clear HR132
            clear HO128
            have HO114 := n0_
            have HO118 := n1_
            have HB := n2_
            have HR122 := n3_
            have HR132 := n4_
            have HO135 := n5_
            clear n0_ n1_ n2_ n3_ n4_ n5_
            clear ho hb hg hat
            refine hK.out _ _ trivial (fun hHeld => ?_)
            clear hK K
            refine norm_ (a' := ?_) ?_ ?_
            rotate_left
            · show Act.put _ (some 40) _ = _
              simp only [Act.put, List.setIfInBounds_toArray, List.set_cons_zero, List.set_cons_succ, i64_w, i32_w]
              rfl
            refine pure_ (i := 10) (N := some 12) (v := ?_) (a' := ?_) #[true, true, true, true, true, true, true, true, true, true, true] rfl rfl (any_of HT_.out (by kernel_rfl)) (fun _ _ _ h => h) (Or.inl ⟨by rfl, ?_⟩) ?_ ?_
            rotate_left
            · intro w'
              go_simp
              with_reducible rfl
            rotate_left
            · simp only [Act.put, List.setIfInBounds_toArray, List.set_cons_zero, List.set_cons_succ, i64_w, i32_w]
              rfl
            refine done_ (done_of HT_.out (by kernel_rfl)) ?_
            go_upto_region 7 with (first | ((with_reducible refine gate_callee (f := 16) rfl ?_); refine goesL_ (some 44) rfl rfl Try.func16 (by kernel_rfl) rfl #[.slice Ao20 t112.length co20, .slice Ao20 t112.length co20] rfl (by (try simp only [List.map_toArray, List.map_cons, List.map_nil]); first | done | rfl | (simp only [List.length_drop, List.length_take]; rfl)) ?_; (with_reducible refine (delta_Delta.calls _ _ t112 _ _ t112 t136 t137 _ ?side1 ?side2 ?side3 ?side4 A16.out).mono ?_); (case side1 => repeat (first | exact (Kd.R_reads' HO114.out).2.2 | (with_reducible refine Kd.C_alloc ?_ _) | (with_reducible refine Kd.C_drewN ?_ _) | (with_reducible refine Kd.C_drew ?_))); (case side2 => exact (Kd.R_reads' HO114.out).2.1); (case side3 => repeat (first | exact (Kd.R_reads' HO114.out).2.2 | (with_reducible refine Kd.C_alloc ?_ _) | (with_reducible refine Kd.C_drewN ?_ _) | (with_reducible refine Kd.C_drew ?_))); (case side4 => exact (Kd.R_reads' HO114.out).2.1); rintro e w29 ⟨v138, rfl, ho0, hb⟩; refine ⟨_, rfl, ?_⟩; have n0_ := Aside0.mk (Kd.R_below (by (with_reducible repeat (first | apply Kd.R_alloc | apply Kd.R_drewN | apply Kd.R_drew)); exact HO114.out) hb); have n1_ := Aside0.mk (Kd.R_below (by (with_reducible repeat (first | apply Kd.R_alloc | apply Kd.R_drewN | apply Kd.R_drew)); exact HO118.out) hb); have n2_ := Aside0.mk (Kd.R_below (by (with_reducible repeat (first | apply Kd.R_alloc | apply Kd.R_drewN | apply Kd.R_drew)); exact HO135.out) hb); have n3_ := Aside0.mk (Kd.S_lower (Kd.S_new' (Kd.S_new' (Kd.S_new' ho0 (Kd.R_lt (by (with_reducible repeat (first | apply Kd.R_alloc | apply Kd.R_drewN | apply Kd.R_drew)); exact HO114.out))) (Kd.R_lt (by (with_reducible repeat (first | apply Kd.R_alloc | apply Kd.R_drewN | apply Kd.R_drew)); exact HO118.out))) (Kd.R_lt (by (with_reducible repeat (first | apply Kd.R_alloc | apply Kd.R_drewN | apply Kd.R_drew)); exact HO135.out))) (below_size (by repeat (first | (with_reducible first | exact HB.out | apply below_alloc | apply pw_below_drewN | apply below_drew1) | exact HB.out)))); have n4_ := Aside0.mk (Kd.C_below (by repeat (first | (with_reducible exact HR122.out) | (with_reducible refine Kd.C_alloc ?_ _) | (with_reducible refine Kd.C_drewN ?_ _) | (with_reducible refine Kd.C_drew ?_) | exact HR122.out)) hb); have n5_ := Aside0.mk (Kd.C_below (by repeat (first | (with_reducible exact HR132.out) | (with_reducible refine Kd.C_alloc ?_ _) | (with_reducible refine Kd.C_drewN ?_ _) | (with_reducible refine Kd.C_drew ?_) | exact HR132.out)) hb); have n6_ := Aside0.mk (below_step (by repeat (first | (with_reducible first | exact HB.out | apply below_alloc | apply pw_below_drewN | apply below_drew1) | exact HB.out)) hb); clear HO114; clear HO118; clear HO135; clear HR122; clear HR132; clear HB; have HO114 := n0_; have HO118 := n1_; have HO135 := n2_; have HO139 := n3_; have HR122 := n4_; have HR132 := n5_; have HB := n6_; clear n0_ n1_ n2_ n3_ n4_ n5_ n6_; (try clear hb); (try clear hb2); (try clear hk); (try clear hi); (try clear ho0); obtain ⟨Ao30, co30, eo30⟩ := Kd.R_slice HO135.out; subst eo30) | ((with_reducible refine gate_callee (f := 16) rfl ?_); refine goesL_ (some 50) rfl rfl Try.func16 (by kernel_rfl) rfl #[.slice Ao20 t112.length co20, .slice Ao30 y133.length co30] rfl (by (try simp only [List.map_toArray, List.map_cons, List.map_nil]); first | done | rfl | (simp only [List.length_drop, List.length_take]; rfl)) ?_; (with_reducible refine (delta_Delta.calls _ _ t112 _ _ y133 t140 t141 _ ?side1 ?side2 ?side3 ?side4 A17.out).mono ?_); (case side1 => repeat (first | exact (Kd.R_reads' HO114.out).2.2 | (with_reducible refine Kd.C_alloc ?_ _) | (with_reducible refine Kd.C_drewN ?_ _) | (with_reducible refine Kd.C_drew ?_))); (case side2 => exact (Kd.R_reads' HO114.out).2.1); (case side3 => repeat (first | exact (Kd.R_reads' HO135.out).2.2 | (with_reducible refine Kd.C_alloc ?_ _) | (with_reducible refine Kd.C_drewN ?_ _) | (with_reducible refine Kd.C_drew ?_))); (case side4 => exact (Kd.R_reads' HO135.out).2.1); rintro e w31 ⟨v142, rfl, ho0, hb⟩; refine ⟨_, rfl, ?_⟩; have n0_ := Aside0.mk (Kd.R_below (by (with_reducible repeat (first | apply Kd.R_alloc | apply Kd.R_drewN | apply Kd.R_drew)); exact HO114.out) hb); have n1_ := Aside0.mk (Kd.R_below (by (with_reducible repeat (first | apply Kd.R_alloc | apply Kd.R_drewN | apply Kd.R_drew)); exact HO118.out) hb); have n2_ := Aside0.mk (Kd.R_below (by (with_reducible repeat (first | apply Kd.R_alloc | apply Kd.R_drewN | apply Kd.R_drew)); exact HO135.out) hb); have n3_ := Aside0.mk (Kd.S_elder' (by (with_reducible repeat (first | apply Kd.S_alloc | apply Kd.S_drewN | apply Kd.S_drew)); exact HO139.out) (Kd.S_base ho0) hb); have n4_ := Aside0.mk (Kd.S_lower (Kd.S_new' (Kd.S_new' (Kd.S_new' (Kd.S_new' ho0 (Kd.R_lt (by (with_reducible repeat (first | apply Kd.R_alloc | apply Kd.R_drewN | apply Kd.R_drew)); exact HO114.out))) (Kd.R_lt (by (with_reducible repeat (first | apply Kd.R_alloc | apply Kd.R_drewN | apply Kd.R_drew)); exact HO118.out))) (Kd.R_lt (by (with_reducible repeat (first | apply Kd.R_alloc | apply Kd.R_drewN | apply Kd.R_drew)); exact HO135.out))) (Kd.S_lt (by (with_reducible repeat (first | apply Kd.S_alloc | apply Kd.S_drewN | apply Kd.S_drew)); exact HO139.out))) (below_size (by repeat (first | (with_reducible first | exact HB.out | apply below_alloc | apply pw_below_drewN | apply below_drew1) | exact HB.out)))); have n5_ := Aside0.mk (Kd.C_below (by repeat (first | (with_reducible exact HR122.out) | (with_reducible refine Kd.C_alloc ?_ _) | (with_reducible refine Kd.C_drewN ?_ _) | (with_reducible refine Kd.C_drew ?_) | exact HR122.out)) hb); have n6_ := Aside0.mk (Kd.C_below (by repeat (first | (with_reducible exact HR132.out) | (with_reducible refine Kd.C_alloc ?_ _) | (with_reducible refine Kd.C_drewN ?_ _) | (with_reducible refine Kd.C_drew ?_) | exact HR132.out)) hb); have n7_ := Aside0.mk (below_step (by repeat (first | (with_reducible first | exact HB.out | apply below_alloc | apply pw_below_drewN | apply below_drew1) | exact HB.out)) hb); clear HO114; clear HO118; clear HO135; clear HO139; clear HR122; clear HR132; clear HB; have HO114 := n0_; have HO118 := n1_; have HO135 := n2_; have HO139 := n3_; have HO143 := n4_; have HR122 := n5_; have HR132 := n6_; have HB := n7_; clear n0_ n1_ n2_ n3_ n4_ n5_ n6_ n7_; (try clear hb); (try clear hb2); (try clear hk); (try clear hi); (try clear ho0)))
            (try simp only [Act.put, List.setIfInBounds_toArray, List.set_cons_zero, List.set_cons_succ])
            go_cut [79] (fun v79 wc => ∃ (kq : Nat) (x79_17 : Bool), v79 = .bool x79_17 ∧ Aside0 (packthreadkeep_DeltaSmall.j0 kq t116 t140 x79_17 = some r) ∧ Aside0 (kq ≤ k) ∧ Aside0 (Kd.R (Kd.int .u8) 5 wc w.heap.size (fun _ => True) (.slice Ao27 t116.length co27) t116) ∧ Aside0 (Kd.S k31 31 wc w.heap.size (fun k_ => some k_ ≠ ((.slice Ao27 t116.length co27) : Value).ownBlock) v142 t140) ∧ Aside0 (Below w.heap.size w wc))
            case first =>
              have H := HC18.out
              clear HC18
              by_cases c32 : t137 = 0
              · rw [if_pos c32] at H
                have c32b0 : (t137 == 0) = true := beq_iff_eq.mpr c32
                have c32b1 : (t137 != 0) = false := bne_eq_false_iff_eq.mpr c32
                clear c32
                (first | rw [c32b0] | (simp only [i64_w, i32_w]; rw [c32b0]) | rw [c32b1] | skip)
                by_cases c33 : t141 = 0
                · rw [if_pos c33] at H
                  have c33b0 : (t141 == 0) = true := beq_iff_eq.mpr c33
                  have c33b1 : (t141 != 0) = false := bne_eq_false_iff_eq.mpr c33
                  clear c33
                  by_cases c34 : (t136.length : Int) = 1
                  · rw [if_pos c34] at H
                    have c34b0 : ((t136.length : Int) == 1) = true := beq_iff_eq.mpr c34
                    have c34b1 : ((t136.length : Int) != 1) = false := bne_eq_false_iff_eq.mpr c34
                    clear c34
                    by_cases c35 : 0 < (t136.length : Int)
                    · rw [if_pos c35] at H
                      have c35b0 : decide (0 < (t136.length : Int)) = true := decide_eq_true c35
                      have c35b1 : decide (0 < t136.length) = true := decide_eq_true (by omega)
                      clear c35
                      by_cases c36 : ((rd_T31 t136 0).f2) = (t112.length : Int)
                      · rw [if_pos c36] at H
                        have c36b0 : (((rd_T31 t136 0).f2) == (t112.length : Int)) = true := beq_iff_eq.mpr c36
                        have c36b1 : (((rd_T31 t136 0).f2) != (t112.length : Int)) = false := bne_eq_false_iff_eq.mpr c36
                        clear c36
                        have H' := Aside0.mk H
                        clear H
                        obtain ⟨Ao37, co37, eo37⟩ := Kd.S_slice HO139.out
                        subst eo37
                        have p144 : 0 ≤ (0 : Int) := (by omega)
                        have q144 : 0 < (t136.length : Int) := of_decide_eq_true (by first | (with_reducible assumption) | assumption)
                        obtain ⟨ad144, A144_3, c144_3, e144, hx144_0, hx144_1, hx144_2, hx144_3, hl144_3, hi144_3⟩ := at_T31 (Kd.S_reads' HO139.out).2.2 0 p144 q144
                        cases e144
                        obtain ⟨ce144, hce144, hMe144, hcc144⟩ := Kd.S_get HO139.out z31 0 p144 (by first | exact q144 | exact of_decide_eq_true (by first | (with_reducible assumption) | assumption) | (have e_ := (Kd.S_reads' HO139.out).1; omega))
                        obtain ⟨ve144_3, rfl, ge144_3⟩ := k31_openM hMe144
                        have hv144_3 := hcc144 3 _ rfl
                        rw [add_field _ _ 3 (by omega)] at hv144_3
                        replace hv144_3 := Option.some.inj (hv144_3.symm.trans hx144_3)
                        rw [hv144_3] at ge144_3
                        have HL144_3 := Aside0.mk (show Kd.R (Kd.int .u8) 5 _ _ _ _ ((rd_T31 t136 0).f3) from ge144_3)
                        clear hv144_3 ge144_3
                        clear hcc144 hce144
                        have qi144 : (0 < t136.length) = True := eq_true (by omega)
                        (try rw [show ((0 : Int)).toNat = 0 from rfl] at hx144_0)
                        (try rw [show 0 * 4 = 0 from rfl] at hx144_0)
                        (try rw [Addr.add_zero'] at hx144_0)
                        (try rw [show ((0 : Int)).toNat = 0 from rfl] at hx144_1)
                        (try rw [show 0 * 4 = 0 from rfl] at hx144_1)
                        (try rw [Addr.add_zero'] at hx144_1)
                        (try rw [show ((0 : Int)).toNat = 0 from rfl] at hx144_2)
                        (try rw [show 0 * 4 = 0 from rfl] at hx144_2)
                        (try rw [Addr.add_zero'] at hx144_2)
                        (try rw [show ((0 : Int)).toNat = 0 from rfl] at hx144_3)
                        (try rw [show 0 * 4 = 0 from rfl] at hx144_3)
                        (try rw [Addr.add_zero'] at hx144_3)
                        have HR144_3 := Aside0.mk hi144_3
                        have HC144_3 := Aside0.mk hl144_3
                        clear hi144_3 hl144_3
                        replace p144 := eq_true p144
                        replace q144 := eq_true q144
                        have p145 : 0 ≤ (0 : Int) := (by omega)
                        have q145 : 0 < (t136.length : Int) := of_decide_eq_true (by first | (with_reducible assumption) | assumption)
                        obtain ⟨ad145, A145_3, c145_3, e145, hx145_0, hx145_1, hx145_2, hx145_3, hl145_3, hi145_3⟩ := at_T31 (Kd.S_reads' HO139.out).2.2 0 p145 q145
                        obtain rfl : ad144 = ad145 := (by injection e145)
                        obtain ⟨ce145, hce145, hMe145, hcc145⟩ := Kd.S_get HO139.out z31 0 p145 (by first | exact q145 | exact of_decide_eq_true (by first | (with_reducible assumption) | assumption) | (have e_ := (Kd.S_reads' HO139.out).1; omega))
                        obtain ⟨ve145_3, rfl, ge145_3⟩ := k31_openM hMe145
                        have hv145_3 := hcc145 3 _ rfl
                        rw [add_field _ _ 3 (by omega)] at hv145_3
                        replace hv145_3 := Option.some.inj (hv145_3.symm.trans hx145_3)
                        rw [hv145_3] at ge145_3
                        have HL145_3 := Aside0.mk (show Kd.R (Kd.int .u8) 5 _ _ _ _ ((rd_T31 t136 0).f3) from ge145_3)
                        clear hv145_3 ge145_3
                        clear hcc145 hce145
                        have qi145 : (0 < t136.length) = True := eq_true (by omega)
                        (try rw [show ((0 : Int)).toNat = 0 from rfl] at hx145_0)
                        (try rw [show 0 * 4 = 0 from rfl] at hx145_0)
                        (try rw [Addr.add_zero'] at hx145_0)
                        (try rw [show ((0 : Int)).toNat = 0 from rfl] at hx145_1)
                        (try rw [show 0 * 4 = 0 from rfl] at hx145_1)
                        (try rw [Addr.add_zero'] at hx145_1)
                        (try rw [show ((0 : Int)).toNat = 0 from rfl] at hx145_2)
                        (try rw [show 0 * 4 = 0 from rfl] at hx145_2)
                        (try rw [Addr.add_zero'] at hx145_2)
                        (try rw [show ((0 : Int)).toNat = 0 from rfl] at hx145_3)
                        (try rw [show 0 * 4 = 0 from rfl] at hx145_3)
                        (try rw [Addr.add_zero'] at hx145_3)
                        have HR145_3 := Aside0.mk hi145_3
                        have HC145_3 := Aside0.mk hl145_3
                        clear hi145_3 hl145_3
                        replace p145 := eq_true p145
                        replace q145 := eq_true q145
                        have ea_ := Option.some.inj (hx144_3.symm.trans hx145_3)
                        injection ea_ with ea_ en_ ec_
                        subst ea_
                        subst ec_
                        clear en_
                        go_wp2
                        go_meet
                        case rel => exact ⟨_, ((((rd_T31 t136 0).f1) != 0)), (by first | rfl | (simp; done) | (simp [*]; done)), H', ⟨by first | omega | exact Nat.le_refl _⟩, ⟨by (with_reducible repeat (first | apply Kd.R_alloc | apply Kd.R_drewN | apply Kd.R_drew)); exact Kd.R_mono HO118.out (fun _ hk => trivial)⟩, ⟨by (with_reducible repeat (first | apply Kd.S_alloc | apply Kd.S_drewN | apply Kd.S_drew)); exact Kd.S_mono HO143.out (fun _ hk => by first | exact hk.1.1.2 | (and_intros <;> first | exact hk | exact hk.1 | exact hk.2 | exact hk.1.1 | exact hk.1.2 | exact hk.2.1 | exact hk.2.2 | exact hk.1.1.1 | exact hk.1.1.2 | exact hk.2.2.1 | exact hk.2.2.2))⟩, ⟨by repeat (first | (with_reducible first | exact HB.out | apply below_alloc | apply pw_below_drewN | apply below_drew1) | exact HB.out)⟩⟩
                      · rw [if_neg c36] at H
                        have c36b0 : (((rd_T31 t136 0).f2) == (t112.length : Int)) = false := beq_eq_false_iff_ne.mpr c36
                        have c36b1 : (((rd_T31 t136 0).f2) != (t112.length : Int)) = true := bne_iff_ne.mpr c36
                        have H' := Aside0.mk H
                        clear H
                        obtain ⟨Ao38, co38, eo38⟩ := Kd.S_slice HO139.out
                        subst eo38
                        have p144 : 0 ≤ (0 : Int) := (by omega)
                        have q144 : 0 < (t136.length : Int) := of_decide_eq_true (by first | (with_reducible assumption) | assumption)
                        obtain ⟨ad144, A144_3, c144_3, e144, hx144_0, hx144_1, hx144_2, hx144_3, hl144_3, hi144_3⟩ := at_T31 (Kd.S_reads' HO139.out).2.2 0 p144 q144
                        cases e144
                        obtain ⟨ce144, hce144, hMe144, hcc144⟩ := Kd.S_get HO139.out z31 0 p144 (by first | exact q144 | exact of_decide_eq_true (by first | (with_reducible assumption) | assumption) | (have e_ := (Kd.S_reads' HO139.out).1; omega))
                        obtain ⟨ve144_3, rfl, ge144_3⟩ := k31_openM hMe144
                        have hv144_3 := hcc144 3 _ rfl
                        rw [add_field _ _ 3 (by omega)] at hv144_3
                        replace hv144_3 := Option.some.inj (hv144_3.symm.trans hx144_3)
                        rw [hv144_3] at ge144_3
                        have HL144_3 := Aside0.mk (show Kd.R (Kd.int .u8) 5 _ _ _ _ ((rd_T31 t136 0).f3) from ge144_3)
                        clear hv144_3 ge144_3
                        clear hcc144 hce144
                        have qi144 : (0 < t136.length) = True := eq_true (by omega)
                        (try rw [show ((0 : Int)).toNat = 0 from rfl] at hx144_0)
                        (try rw [show 0 * 4 = 0 from rfl] at hx144_0)
                        (try rw [Addr.add_zero'] at hx144_0)
                        (try rw [show ((0 : Int)).toNat = 0 from rfl] at hx144_1)
                        (try rw [show 0 * 4 = 0 from rfl] at hx144_1)
                        (try rw [Addr.add_zero'] at hx144_1)
                        (try rw [show ((0 : Int)).toNat = 0 from rfl] at hx144_2)
                        (try rw [show 0 * 4 = 0 from rfl] at hx144_2)
                        (try rw [Addr.add_zero'] at hx144_2)
                        (try rw [show ((0 : Int)).toNat = 0 from rfl] at hx144_3)
                        (try rw [show 0 * 4 = 0 from rfl] at hx144_3)
                        (try rw [Addr.add_zero'] at hx144_3)
                        have HR144_3 := Aside0.mk hi144_3
                        have HC144_3 := Aside0.mk hl144_3
                        clear hi144_3 hl144_3
                        replace p144 := eq_true p144
                        replace q144 := eq_true q144
                        go_wp2
                        go_meet
                        case rel => exact ⟨_, (true), (by first | rfl | (simp; done) | (simp [*]; done)), H', ⟨by first | omega | exact Nat.le_refl _⟩, ⟨by (with_reducible repeat (first | apply Kd.R_alloc | apply Kd.R_drewN | apply Kd.R_drew)); exact Kd.R_mono HO118.out (fun _ hk => trivial)⟩, ⟨by (with_reducible repeat (first | apply Kd.S_alloc | apply Kd.S_drewN | apply Kd.S_drew)); exact Kd.S_mono HO143.out (fun _ hk => by first | exact hk.1.1.2 | (and_intros <;> first | exact hk | exact hk.1 | exact hk.2 | exact hk.1.1 | exact hk.1.2 | exact hk.2.1 | exact hk.2.2 | exact hk.1.1.1 | exact hk.1.1.2 | exact hk.2.2.1 | exact hk.2.2.2))⟩, ⟨by repeat (first | (with_reducible first | exact HB.out | apply below_alloc | apply pw_below_drewN | apply below_drew1) | exact HB.out)⟩⟩
                    · rw [if_neg c35] at H
                      exact absurd H (by simp)
                  · rw [if_neg c34] at H
                    have c34b0 : ((t136.length : Int) == 1) = false := beq_eq_false_iff_ne.mpr c34
                    have c34b1 : ((t136.length : Int) != 1) = true := bne_iff_ne.mpr c34
                    have H' := Aside0.mk H
                    clear H
                    obtain ⟨Ao39, co39, eo39⟩ := Kd.S_slice HO139.out
                    subst eo39
                    go_wp2
                    go_meet
                    case rel => exact ⟨_, (true), (by first | rfl | (simp; done) | (simp [*]; done)), H', ⟨by first | omega | exact Nat.le_refl _⟩, ⟨by (with_reducible repeat (first | apply Kd.R_alloc | apply Kd.R_drewN | apply Kd.R_drew)); exact Kd.R_mono HO118.out (fun _ hk => trivial)⟩, ⟨by (with_reducible repeat (first | apply Kd.S_alloc | apply Kd.S_drewN | apply Kd.S_drew)); exact Kd.S_mono HO143.out (fun _ hk => by first | exact hk.1.1.2 | (and_intros <;> first | exact hk | exact hk.1 | exact hk.2 | exact hk.1.1 | exact hk.1.2 | exact hk.2.1 | exact hk.2.2 | exact hk.1.1.1 | exact hk.1.1.2 | exact hk.2.2.1 | exact hk.2.2.2))⟩, ⟨by repeat (first | (with_reducible first | exact HB.out | apply below_alloc | apply pw_below_drewN | apply below_drew1) | exact HB.out)⟩⟩
                · rw [if_neg c33] at H
                  have c33b0 : (t141 == 0) = false := beq_eq_false_iff_ne.mpr c33
                  have c33b1 : (t141 != 0) = true := bne_iff_ne.mpr c33
                  have H' := Aside0.mk H
                  clear H
                  go_wp2
                  go_meet
                  case rel => exact ⟨_, (true), (by first | rfl | (simp; done) | (simp [*]; done)), H', ⟨by first | omega | exact Nat.le_refl _⟩, ⟨by (with_reducible repeat (first | apply Kd.R_alloc | apply Kd.R_drewN | apply Kd.R_drew)); exact Kd.R_mono HO118.out (fun _ hk => trivial)⟩, ⟨by (with_reducible repeat (first | apply Kd.S_alloc | apply Kd.S_drewN | apply Kd.S_drew)); exact Kd.S_mono HO143.out (fun _ hk => by first | exact hk.1.1.2 | (and_intros <;> first | exact hk | exact hk.1 | exact hk.2 | exact hk.1.1 | exact hk.1.2 | exact hk.2.1 | exact hk.2.2 | exact hk.1.1.1 | exact hk.1.1.2 | exact hk.2.2.1 | exact hk.2.2.2))⟩, ⟨by repeat (first | (with_reducible first | exact HB.out | apply below_alloc | apply pw_below_drewN | apply below_drew1) | exact HB.out)⟩⟩
              · rw [if_neg c32] at H
                have c32b0 : (t137 == 0) = false := beq_eq_false_iff_ne.mpr c32
                have c32b1 : (t137 != 0) = true := bne_iff_ne.mpr c32
                (first | rw [c32b0] | (simp only [i64_w, i32_w]; rw [c32b0]) | rw [c32b1] | skip)
                have H' := Aside0.mk H
                clear H
                go_wp2
                go_meet
                case rel => exact ⟨_, (true), (by first | rfl | (simp; done) | (simp [*]; done)), H', ⟨by first | omega | exact Nat.le_refl _⟩, ⟨by (with_reducible repeat (first | apply Kd.R_alloc | apply Kd.R_drewN | apply Kd.R_drew)); exact Kd.R_mono HO118.out (fun _ hk => trivial)⟩, ⟨by (with_reducible repeat (first | apply Kd.S_alloc | apply Kd.S_drewN | apply Kd.S_drew)); exact Kd.S_mono HO143.out (fun _ hk => by first | exact hk.1.1.2 | (and_intros <;> first | exact hk | exact hk.1 | exact hk.2 | exact hk.1.1 | exact hk.1.2 | exact hk.2.1 | exact hk.2.2 | exact hk.1.1.1 | exact hk.1.1.2 | exact hk.2.2.1 | exact hk.2.2.2))⟩, ⟨by repeat (first | (with_reducible first | exact HB.out | apply below_alloc | apply pw_below_drewN | apply below_drew1) | exact HB.out)⟩⟩
            case rest =>
              clear HC18
              try clear c1
              try clear p1
              try clear q1
              try clear hx1
              try clear qi1
              try clear c2
              try clear p2
              try clear q2
              try clear c3
              try clear p6
              try clear c9
              try clear c9b0
              try clear c9b1
              try clear c10
              try clear c10b0
              try clear c10b1
              try clear c11
              try clear c12
              try clear c13
              try clear c13b0
              try clear c14
              try clear c14b0
              try clear p14
              try clear q14
              try clear hx14
              try clear qi14
              try clear c15
              try clear c16
              try clear q23
              try clear c24
              try clear q24
              try clear c32
              try clear c32b0
              try clear c32b1
              try clear c33
              try clear c33b0
              try clear c33b1
              try clear c34
              try clear c34b0
              try clear c34b1
              try clear c35
              try clear c35b0
              try clear c35b1
              try clear c36
              try clear c36b0
              try clear c36b1
              try clear hx144_0
              try clear hx144_1
              try clear hx144_2
              try clear hx144_3
              try clear hx145_0
              try clear hx145_1
              try clear hx145_2
              try clear hx145_3
              try clear p144
              try clear p145
              try clear q024
              try clear q144
              try clear q145
              try clear q23
              try clear q24
              obtain ⟨kq, x79_17, rfl, HA, HJ17, HO_11, HO_15, HB⟩ := hcut
              cases kq with
              | zero => exact absurd HA.out (by simp [packthreadkeep_DeltaSmall.j0])
              | succ kj17 =>
                have H := HA.out
                clear HA
                simp only [packthreadkeep_DeltaSmall.j0] at H
                by_cases c40 : x79_17 = true
                · subst c40
                  have H1 : (some false) = some r := by rw [if_pos rfl] at H; exact H
                  clear H
                  have H := H1
                  clear H1
                  obtain rfl := Option.some.inj H
                  go_wp2
                  go_ret
                  exact ⟨by first | rfl | (simp [errW_none, errW_some] <;> rfl) | (simp [*, errW_none, errW_some] <;> rfl), by repeat (first | (with_reducible first | exact HB.out | apply below_alloc | apply pw_below_drewN | apply below_drew1) | exact HB.out)⟩
                · replace c40 := Bool.eq_false_iff.mpr c40
                  subst c40
                  have H1 : (packthreadkeep_DeltaSmall.l0 kj17 t116 t140 0 0) = some r := by rw [if_neg (show ¬ (false = true) by decide)] at H; exact H
                  clear H
                  have H := H1
                  clear H1
                  have H' := Aside0.mk H
                  clear H
                  go_wp2
                  go_loopg [17, 18] kj17 (fun kq v17 v18 w' => ∃ (x17_2 : Int) (x18_2 : Int), v17 = .int .i64 x17_2 ∧ v18 = .int .i64 x18_2 ∧ Aside0 (packthreadkeep_DeltaSmall.l0 kq t116 t140 x17_2 x18_2 = some r) ∧ Aside0 (kq ≤ kj17) ∧ Aside0 (Kd.R (Kd.int .u8) 5 w' w.heap.size (fun _ => True) (.slice Ao27 t116.length co27) t116) ∧ Aside0 (Kd.S k31 31 w' w.heap.size (fun k_ => some k_ ≠ ((.slice Ao27 t116.length co27) : Value).ownBlock) v142 t140) ∧ Aside0 (Below w.heap.size w w'))
                  case atStart => exact ⟨(0), (0), (by first | rfl | (simp; done) | (simp [*]; done)), (by first | rfl | (simp; done) | (simp [*]; done)), H', ⟨Nat.le_refl _⟩, ⟨by (with_reducible repeat (first | apply Kd.R_alloc | apply Kd.R_drewN | apply Kd.R_drew)); exact HO_11.out⟩, ⟨by (with_reducible repeat (first | apply Kd.S_alloc | apply Kd.S_drewN | apply Kd.S_drew)); exact HO_15.out⟩, ⟨by repeat (first | (with_reducible first | exact HB.out | apply below_alloc | apply pw_below_drewN | apply below_drew1) | exact HB.out)⟩⟩
                  case round =>
                    clear H'
                    try clear c1
                    try clear p1
                    try clear q1
                    try clear hx1
                    try clear qi1
                    try clear c2
                    try clear p2
                    try clear q2
                    try clear c3
                    try clear c4
                    try clear p6
                    try clear c9
                    try clear c9b0
                    try clear c9b1
                    try clear c10
                    try clear c10b0
                    try clear c10b1
                    try clear c11
                    try clear c12
                    try clear c13
                    try clear c13b0
                    try clear c14
                    try clear c14b0
                    try clear p14
                    try clear q14
                    try clear hx14
                    try clear qi14
                    try clear c15
                    try clear c16
                    try clear q23
                    try clear c24
                    try clear q24
                    try clear c32
                    try clear c32b0
                    try clear c32b1
                    try clear c33
                    try clear c33b0
                    try clear c33b1
                    try clear c34
                    try clear c34b0
                    try clear c34b1
                    try clear c35
                    try clear c35b0
                    try clear c35b1
                    try clear c36
                    try clear c36b0
                    try clear c36b1
                    try clear c40
                    try clear hx144_0
                    try clear hx144_1
                    try clear hx144_2
                    try clear hx144_3
                    try clear hx145_0
                    try clear hx145_1
                    try clear hx145_2
                    try clear hx145_3
                    try clear p1
                    try clear p14
                    try clear p144
                    try clear p145
                    try clear p2
                    try clear p6
                    try clear q024
                    try clear q1
                    try clear q14
                    try clear q144
                    try clear q145
                    try clear q2
                    try clear q23
                    try clear q24
                    obtain ⟨x17_2, x18_2, rfl, rfl, HA, HK2, HO_11, HO_15, HB⟩ := hrel
                    cases gk with
                    | zero => exact absurd HA.out (by simp [packthreadkeep_DeltaSmall.l0])
                    | succ k2 =>
                      have H := HA.out
                      clear HA
                      simp only [packthreadkeep_DeltaSmall.l0] at H
                      by_cases c41 : x18_2 < (t140.length : Int)
                      · rw [if_pos c41] at H
                        have c41b0 : decide (x18_2 < (t140.length : Int)) = true := decide_eq_true c41
                        clear c41
                        by_cases c42 : 0 ≤ x18_2
                        · rw [if_pos c42] at H
                          have c42b0 : decide (0 ≤ x18_2) = true := decide_eq_true c42
                          clear c42
                          obtain ⟨bq43, hbq43⟩ : ∃ b_ : Bool, b_ = ((rd_T31 t140 x18_2).f0) := ⟨_, rfl⟩
                          replace H : (if bq43 = true then (if ((rd_T31 t140 x18_2).f2) < 8 then (some false) else (packthreadkeep_DeltaSmall.l0 k2 t116 t140 (wrap64 (x17_2 + (((rd_T31 t140 x18_2).f3).length : Int))) (wrap64 (x18_2 + 1)))) else (packthreadkeep_DeltaSmall.l0 k2 t116 t140 (wrap64 (x17_2 + (((rd_T31 t140 x18_2).f3).length : Int))) (wrap64 (x18_2 + 1)))) = some r := by rw [← hbq43] at H; exact H
                          have Nbq43 := Aside0.mk hbq43
                          clear hbq43
                          by_cases c44 : bq43 = true
                          · subst c44
                            have H1 : (if ((rd_T31 t140 x18_2).f2) < 8 then (some false) else (packthreadkeep_DeltaSmall.l0 k2 t116 t140 (wrap64 (x17_2 + (((rd_T31 t140 x18_2).f3).length : Int))) (wrap64 (x18_2 + 1)))) = some r := by rw [if_pos rfl] at H; exact H
                            clear H
                            have H := H1
                            clear H1
                            by_cases c45 : ((rd_T31 t140 x18_2).f2) < 8
                            · rw [if_pos c45] at H
                              have c45b0 : decide (((rd_T31 t140 x18_2).f2) < 8) = true := decide_eq_true c45
                              clear c45
                              obtain rfl := Option.some.inj H
                              obtain ⟨Ao46, co46, eo46⟩ := Kd.S_slice HO_15.out
                              subst eo46
                              have p146 : 0 ≤ (x18_2 : Int) := of_decide_eq_true (by first | (with_reducible assumption) | assumption)
                              have q146 : x18_2 < (t140.length : Int) := of_decide_eq_true (by first | (with_reducible assumption) | assumption)
                              obtain ⟨ad146, A146_3, c146_3, e146, hx146_0, hx146_1, hx146_2, hx146_3, hl146_3, hi146_3⟩ := at_T31 (Kd.S_reads' HO_15.out).2.2 x18_2 p146 q146
                              (try rw [← Nbq43.out] at hx146_0)
                              cases e146
                              obtain ⟨ce146, hce146, hMe146, hcc146⟩ := Kd.S_get HO_15.out z31 x18_2 p146 (by first | exact q146 | exact of_decide_eq_true (by first | (with_reducible assumption) | assumption) | (have e_ := (Kd.S_reads' HO_15.out).1; omega))
                              obtain ⟨ve146_3, rfl, ge146_3⟩ := k31_openM hMe146
                              have hv146_3 := hcc146 3 _ rfl
                              rw [add_field _ _ 3 (by omega)] at hv146_3
                              replace hv146_3 := Option.some.inj (hv146_3.symm.trans hx146_3)
                              rw [hv146_3] at ge146_3
                              have HL146_3 := Aside0.mk (show Kd.R (Kd.int .u8) 5 _ _ _ _ ((rd_T31 t140 x18_2).f3) from ge146_3)
                              clear hv146_3 ge146_3
                              clear hcc146 hce146
                              have HR146_3 := Aside0.mk hi146_3
                              have HC146_3 := Aside0.mk hl146_3
                              clear hi146_3 hl146_3
                              replace p146 := eq_true p146
                              replace q146 := eq_true q146
                              have p147 : 0 ≤ (x18_2 : Int) := of_decide_eq_true (by first | (with_reducible assumption) | assumption)
                              have q147 : x18_2 < (t140.length : Int) := of_decide_eq_true (by first | (with_reducible assumption) | assumption)
                              obtain ⟨ad147, A147_3, c147_3, e147, hx147_0, hx147_1, hx147_2, hx147_3, hl147_3, hi147_3⟩ := at_T31 (Kd.S_reads' HO_15.out).2.2 x18_2 p147 q147
                              (try rw [← Nbq43.out] at hx147_0)
                              obtain rfl : ad146 = ad147 := (by injection e147)
                              obtain ⟨ce147, hce147, hMe147, hcc147⟩ := Kd.S_get HO_15.out z31 x18_2 p147 (by first | exact q147 | exact of_decide_eq_true (by first | (with_reducible assumption) | assumption) | (have e_ := (Kd.S_reads' HO_15.out).1; omega))
                              obtain ⟨ve147_3, rfl, ge147_3⟩ := k31_openM hMe147
                              have hv147_3 := hcc147 3 _ rfl
                              rw [add_field _ _ 3 (by omega)] at hv147_3
                              replace hv147_3 := Option.some.inj (hv147_3.symm.trans hx147_3)
                              rw [hv147_3] at ge147_3
                              have HL147_3 := Aside0.mk (show Kd.R (Kd.int .u8) 5 _ _ _ _ ((rd_T31 t140 x18_2).f3) from ge147_3)
                              clear hv147_3 ge147_3
                              clear hcc147 hce147
                              have HR147_3 := Aside0.mk hi147_3
                              have HC147_3 := Aside0.mk hl147_3
                              clear hi147_3 hl147_3
                              replace p147 := eq_true p147
                              replace q147 := eq_true q147
                              have ea_ := Option.some.inj (hx146_3.symm.trans hx147_3)
                              injection ea_ with ea_ en_ ec_
                              subst ea_
                              subst ec_
                              clear en_
                              have p148 : 0 ≤ (x18_2 : Int) := of_decide_eq_true (by first | (with_reducible assumption) | assumption)
                              have q148 : x18_2 < (t140.length : Int) := of_decide_eq_true (by first | (with_reducible assumption) | assumption)
                              obtain ⟨ad148, A148_3, c148_3, e148, hx148_0, hx148_1, hx148_2, hx148_3, hl148_3, hi148_3⟩ := at_T31 (Kd.S_reads' HO_15.out).2.2 x18_2 p148 q148
                              (try rw [← Nbq43.out] at hx148_0)
                              obtain rfl : ad146 = ad148 := (by injection e148)
                              obtain ⟨ce148, hce148, hMe148, hcc148⟩ := Kd.S_get HO_15.out z31 x18_2 p148 (by first | exact q148 | exact of_decide_eq_true (by first | (with_reducible assumption) | assumption) | (have e_ := (Kd.S_reads' HO_15.out).1; omega))
                              obtain ⟨ve148_3, rfl, ge148_3⟩ := k31_openM hMe148
                              have hv148_3 := hcc148 3 _ rfl
                              rw [add_field _ _ 3 (by omega)] at hv148_3
                              replace hv148_3 := Option.some.inj (hv148_3.symm.trans hx148_3)
                              rw [hv148_3] at ge148_3
                              have HL148_3 := Aside0.mk (show Kd.R (Kd.int .u8) 5 _ _ _ _ ((rd_T31 t140 x18_2).f3) from ge148_3)
                              clear hv148_3 ge148_3
                              clear hcc148 hce148
                              have HR148_3 := Aside0.mk hi148_3
                              have HC148_3 := Aside0.mk hl148_3
                              clear hi148_3 hl148_3
                              replace p148 := eq_true p148
                              replace q148 := eq_true q148
                              have ea_ := Option.some.inj (hx146_3.symm.trans hx148_3)
                              injection ea_ with ea_ en_ ec_
                              subst ea_
                              subst ec_
                              clear en_
                              go_wp2
                              go_ret
                              exact ⟨by first | rfl | (simp [errW_none, errW_some] <;> rfl) | (simp [*, errW_none, errW_some] <;> rfl), by repeat (first | (with_reducible first | exact HB.out | apply below_alloc | apply pw_below_drewN | apply below_drew1) | exact HB.out)⟩
                            · rw [if_neg c45] at H
                              have c45b0 : decide (((rd_T31 t140 x18_2).f2) < 8) = false := decide_eq_false c45
                              clear c45
                              have H' := Aside0.mk H
                              clear H
                              obtain ⟨Ao47, co47, eo47⟩ := Kd.S_slice HO_15.out
                              subst eo47
                              have p146 : 0 ≤ (x18_2 : Int) := of_decide_eq_true (by first | (with_reducible assumption) | assumption)
                              have q146 : x18_2 < (t140.length : Int) := of_decide_eq_true (by first | (with_reducible assumption) | assumption)
                              obtain ⟨ad146, A146_3, c146_3, e146, hx146_0, hx146_1, hx146_2, hx146_3, hl146_3, hi146_3⟩ := at_T31 (Kd.S_reads' HO_15.out).2.2 x18_2 p146 q146
                              (try rw [← Nbq43.out] at hx146_0)
                              cases e146
                              obtain ⟨ce146, hce146, hMe146, hcc146⟩ := Kd.S_get HO_15.out z31 x18_2 p146 (by first | exact q146 | exact of_decide_eq_true (by first | (with_reducible assumption) | assumption) | (have e_ := (Kd.S_reads' HO_15.out).1; omega))
                              obtain ⟨ve146_3, rfl, ge146_3⟩ := k31_openM hMe146
                              have hv146_3 := hcc146 3 _ rfl
                              rw [add_field _ _ 3 (by omega)] at hv146_3
                              replace hv146_3 := Option.some.inj (hv146_3.symm.trans hx146_3)
                              rw [hv146_3] at ge146_3
                              have HL146_3 := Aside0.mk (show Kd.R (Kd.int .u8) 5 _ _ _ _ ((rd_T31 t140 x18_2).f3) from ge146_3)
                              clear hv146_3 ge146_3
                              clear hcc146 hce146
                              have HR146_3 := Aside0.mk hi146_3
                              have HC146_3 := Aside0.mk hl146_3
                              clear hi146_3 hl146_3
                              replace p146 := eq_true p146
                              replace q146 := eq_true q146
                              have p147 : 0 ≤ (x18_2 : Int) := of_decide_eq_true (by first | (with_reducible assumption) | assumption)
                              have q147 : x18_2 < (t140.length : Int) := of_decide_eq_true (by first | (with_reducible assumption) | assumption)
                              obtain ⟨ad147, A147_3, c147_3, e147, hx147_0, hx147_1, hx147_2, hx147_3, hl147_3, hi147_3⟩ := at_T31 (Kd.S_reads' HO_15.out).2.2 x18_2 p147 q147
                              (try rw [← Nbq43.out] at hx147_0)
                              obtain rfl : ad146 = ad147 := (by injection e147)
                              obtain ⟨ce147, hce147, hMe147, hcc147⟩ := Kd.S_get HO_15.out z31 x18_2 p147 (by first | exact q147 | exact of_decide_eq_true (by first | (with_reducible assumption) | assumption) | (have e_ := (Kd.S_reads' HO_15.out).1; omega))
                              obtain ⟨ve147_3, rfl, ge147_3⟩ := k31_openM hMe147
                              have hv147_3 := hcc147 3 _ rfl
                              rw [add_field _ _ 3 (by omega)] at hv147_3
                              replace hv147_3 := Option.some.inj (hv147_3.symm.trans hx147_3)
                              rw [hv147_3] at ge147_3
                              have HL147_3 := Aside0.mk (show Kd.R (Kd.int .u8) 5 _ _ _ _ ((rd_T31 t140 x18_2).f3) from ge147_3)
                              clear hv147_3 ge147_3
                              clear hcc147 hce147
                              have HR147_3 := Aside0.mk hi147_3
                              have HC147_3 := Aside0.mk hl147_3
                              clear hi147_3 hl147_3
                              replace p147 := eq_true p147
                              replace q147 := eq_true q147
                              have ea_ := Option.some.inj (hx146_3.symm.trans hx147_3)
                              injection ea_ with ea_ en_ ec_
                              subst ea_
                              subst ec_
                              clear en_
                              have p148 : 0 ≤ (x18_2 : Int) := of_decide_eq_true (by first | (with_reducible assumption) | assumption)
                              have q148 : x18_2 < (t140.length : Int) := of_decide_eq_true (by first | (with_reducible assumption) | assumption)
                              obtain ⟨ad148, A148_3, c148_3, e148, hx148_0, hx148_1, hx148_2, hx148_3, hl148_3, hi148_3⟩ := at_T31 (Kd.S_reads' HO_15.out).2.2 x18_2 p148 q148
                              (try rw [← Nbq43.out] at hx148_0)
                              obtain rfl : ad146 = ad148 := (by injection e148)
                              obtain ⟨ce148, hce148, hMe148, hcc148⟩ := Kd.S_get HO_15.out z31 x18_2 p148 (by first | exact q148 | exact of_decide_eq_true (by first | (with_reducible assumption) | assumption) | (have e_ := (Kd.S_reads' HO_15.out).1; omega))
                              obtain ⟨ve148_3, rfl, ge148_3⟩ := k31_openM hMe148
                              have hv148_3 := hcc148 3 _ rfl
                              rw [add_field _ _ 3 (by omega)] at hv148_3
                              replace hv148_3 := Option.some.inj (hv148_3.symm.trans hx148_3)
                              rw [hv148_3] at ge148_3
                              have HL148_3 := Aside0.mk (show Kd.R (Kd.int .u8) 5 _ _ _ _ ((rd_T31 t140 x18_2).f3) from ge148_3)
                              clear hv148_3 ge148_3
                              clear hcc148 hce148
                              have HR148_3 := Aside0.mk hi148_3
                              have HC148_3 := Aside0.mk hl148_3
                              clear hi148_3 hl148_3
                              replace p148 := eq_true p148
                              replace q148 := eq_true q148
                              have ea_ := Option.some.inj (hx146_3.symm.trans hx148_3)
                              injection ea_ with ea_ en_ ec_
                              subst ea_
                              subst ec_
                              clear en_
                              go_wp2
                              go_roundg k2
                              case measure => have := HJ17.out; have := HK2.out; omega
                              case rel => (try rw [← Nbq43.out]); exact ⟨(wrap64 (x17_2 + (((rd_T31 t140 x18_2).f3).length : Int))), (wrap64 (x18_2 + 1)), (by first | rfl | (simp; done) | (simp [*]; done)), (by first | rfl | (simp; done) | (simp [*]; done)), H', ⟨by have := HJ17.out; have := HK2.out; omega⟩, ⟨by (with_reducible repeat (first | apply Kd.R_alloc | apply Kd.R_drewN | apply Kd.R_drew)); exact HO_11.out⟩, ⟨by (with_reducible repeat (first | apply Kd.S_alloc | apply Kd.S_drewN | apply Kd.S_drew)); exact HO_15.out⟩, ⟨by repeat (first | (with_reducible first | exact HB.out | apply below_alloc | apply pw_below_drewN | apply below_drew1) | exact HB.out)⟩⟩
                          · replace c44 := Bool.eq_false_iff.mpr c44
                            subst c44
                            have H1 : (packthreadkeep_DeltaSmall.l0 k2 t116 t140 (wrap64 (x17_2 + (((rd_T31 t140 x18_2).f3).length : Int))) (wrap64 (x18_2 + 1))) = some r := by rw [if_neg (show ¬ (false = true) by decide)] at H; exact H
                            clear H
                            have H := H1
                            clear H1
                            have H' := Aside0.mk H
                            clear H
                            obtain ⟨Ao48, co48, eo48⟩ := Kd.S_slice HO_15.out
                            subst eo48
                            have p146 : 0 ≤ (x18_2 : Int) := of_decide_eq_true (by first | (with_reducible assumption) | assumption)
                            have q146 : x18_2 < (t140.length : Int) := of_decide_eq_true (by first | (with_reducible assumption) | assumption)
                            obtain ⟨ad146, A146_3, c146_3, e146, hx146_0, hx146_1, hx146_2, hx146_3, hl146_3, hi146_3⟩ := at_T31 (Kd.S_reads' HO_15.out).2.2 x18_2 p146 q146
                            (try rw [← Nbq43.out] at hx146_0)
                            cases e146
                            obtain ⟨ce146, hce146, hMe146, hcc146⟩ := Kd.S_get HO_15.out z31 x18_2 p146 (by first | exact q146 | exact of_decide_eq_true (by first | (with_reducible assumption) | assumption) | (have e_ := (Kd.S_reads' HO_15.out).1; omega))
                            obtain ⟨ve146_3, rfl, ge146_3⟩ := k31_openM hMe146
                            have hv146_3 := hcc146 3 _ rfl
                            rw [add_field _ _ 3 (by omega)] at hv146_3
                            replace hv146_3 := Option.some.inj (hv146_3.symm.trans hx146_3)
                            rw [hv146_3] at ge146_3
                            have HL146_3 := Aside0.mk (show Kd.R (Kd.int .u8) 5 _ _ _ _ ((rd_T31 t140 x18_2).f3) from ge146_3)
                            clear hv146_3 ge146_3
                            clear hcc146 hce146
                            have HR146_3 := Aside0.mk hi146_3
                            have HC146_3 := Aside0.mk hl146_3
                            clear hi146_3 hl146_3
                            replace p146 := eq_true p146
                            replace q146 := eq_true q146
                            have p147 : 0 ≤ (x18_2 : Int) := of_decide_eq_true (by first | (with_reducible assumption) | assumption)
                            have q147 : x18_2 < (t140.length : Int) := of_decide_eq_true (by first | (with_reducible assumption) | assumption)
                            obtain ⟨ad147, A147_3, c147_3, e147, hx147_0, hx147_1, hx147_2, hx147_3, hl147_3, hi147_3⟩ := at_T31 (Kd.S_reads' HO_15.out).2.2 x18_2 p147 q147
                            (try rw [← Nbq43.out] at hx147_0)
                            obtain rfl : ad146 = ad147 := (by injection e147)
                            obtain ⟨ce147, hce147, hMe147, hcc147⟩ := Kd.S_get HO_15.out z31 x18_2 p147 (by first | exact q147 | exact of_decide_eq_true (by first | (with_reducible assumption) | assumption) | (have e_ := (Kd.S_reads' HO_15.out).1; omega))
                            obtain ⟨ve147_3, rfl, ge147_3⟩ := k31_openM hMe147
                            have hv147_3 := hcc147 3 _ rfl
                            rw [add_field _ _ 3 (by omega)] at hv147_3
                            replace hv147_3 := Option.some.inj (hv147_3.symm.trans hx147_3)
                            rw [hv147_3] at ge147_3
                            have HL147_3 := Aside0.mk (show Kd.R (Kd.int .u8) 5 _ _ _ _ ((rd_T31 t140 x18_2).f3) from ge147_3)
                            clear hv147_3 ge147_3
                            clear hcc147 hce147
                            have HR147_3 := Aside0.mk hi147_3
                            have HC147_3 := Aside0.mk hl147_3
                            clear hi147_3 hl147_3
                            replace p147 := eq_true p147
                            replace q147 := eq_true q147
                            have ea_ := Option.some.inj (hx146_3.symm.trans hx147_3)
                            injection ea_ with ea_ en_ ec_
                            subst ea_
                            subst ec_
                            clear en_
                            go_wp2
                            go_roundg k2
                            case measure => have := HJ17.out; have := HK2.out; omega
                            case rel => (try rw [← Nbq43.out]); exact ⟨(wrap64 (x17_2 + (((rd_T31 t140 x18_2).f3).length : Int))), (wrap64 (x18_2 + 1)), (by first | rfl | (simp; done) | (simp [*]; done)), (by first | rfl | (simp; done) | (simp [*]; done)), H', ⟨by have := HJ17.out; have := HK2.out; omega⟩, ⟨by (with_reducible repeat (first | apply Kd.R_alloc | apply Kd.R_drewN | apply Kd.R_drew)); exact HO_11.out⟩, ⟨by (with_reducible repeat (first | apply Kd.S_alloc | apply Kd.S_drewN | apply Kd.S_drew)); exact HO_15.out⟩, ⟨by repeat (first | (with_reducible first | exact HB.out | apply below_alloc | apply pw_below_drewN | apply below_drew1) | exact HB.out)⟩⟩
                        · rw [if_neg c42] at H
                          exact absurd H (by simp)
                      · rw [if_neg c41] at H
                        have c41b0 : decide (x18_2 < (t140.length : Int)) = false := decide_eq_false c41
                        clear c41
                        obtain rfl := Option.some.inj H
                        obtain ⟨Ao49, co49, eo49⟩ := Kd.S_slice HO_15.out
                        subst eo49
                        go_wp2
                        go_ret
                        exact ⟨by first | rfl | (simp [errW_none, errW_some] <;> rfl) | (simp [*, errW_none, errW_some] <;> rfl), by repeat (first | (with_reducible first | exact HB.out | apply below_alloc | apply pw_below_drewN | apply below_drew1) | exact HB.out)⟩
          · rw [if_neg c15] at H
            exact absurd H (by simp)
        · rw [if_neg c12] at H
          exact absurd H (by simp)
      · rw [if_neg c11] at H
        exact absurd H (by simp)
    · rw [if_neg c10] at H
      exact absurd H (by simp)
  · rw [if_neg c9] at H
    exact absurd H (by simp)

/-- THE ONE PURE STATEMENT of packthreadkeep_DeltaSmall: yours. -/
def packthreadkeep_DeltaSmall.Pure : Prop := ∀ (a0 : Int) (a1 : Int) (a2 : Int) (l3 : List Int), (Lit.int .i64 a0).wf = true → (Lit.int .i64 a1).wf = true → (Lit.int .i64 a2).wf = true → l3.length ≤ maxLen → l3.length * 1 ≤ 140737488351232 → (∀ x ∈ l3, (Lit.int .u8 x).wf = true) → ∃ k, packthreadkeep_DeltaSmall.f k a0 a1 a2 l3 = some true
theorem packthreadkeep_DeltaSmall.walk (P : packthreadkeep_DeltaSmall.Pure) (a0 : Int) (a1 : Int) (a2 : Int) (a3 : Option Addr) (len3 cap3 : Nat) (z3 : List Int) (w : World) (w0 : (Lit.int .i64 a0).wf = true) (w1 : (Lit.int .i64 a1).wf = true) (w2 : (Lit.int .i64 a2).wf = true) (w3 : (a3 = none ∧ len3 = 0 ∧ cap3 = 0 ∧ z3 = []) ∨ ∃ x, a3 = some x ∧ len3 ≤ cap3 ∧ cap3 ≤ maxLen ∧ z3.length = cap3 ∧ (∀ i, i < z3.length → w.cell? (x.add i) = some (.int .u8 (z3.getD i 0))) ∧ ∀ n ∈ z3, (Lit.int .u8 n).wf = true) (y3 : len3 * 1 ≤ 140737488351232) :
    Calls Try.prog 3 #[.int .i64 a0, .int .i64 a1, .int .i64 a2, .slice a3 len3 cap3] w fun e w' => e = .returned (.bool true) ∧ Below w.heap.size w w' := by
  obtain ⟨l3, rfl, hr3, hm3, hw3, hc3⟩ := ReadsInt.ofRowC w3
  obtain ⟨k, h⟩ := P a0 a1 a2 l3 w0 w1 w2 hm3 y3 hw3
  refine (packthreadkeep_DeltaSmall.calls k a0 a1 a2 _ _ l3 true w (Kd.C_of_reads (d := (0 : Int)) (h1 := fun _ => rfl) hr3) hc3 h).mono ?_
  rintro e w' ⟨rfl, hd⟩
  exact ⟨rfl, hd⟩

end Go.Proofs.Ytknpmpfcmgjpdaa.PDeltaSmall
