-- PRINTED BY print.sh 35421559b90ae4d0a3588c463048766b98c2df88dd9212a6774a882060cdf62d: not written by this session
import Derived.Test.YtfckgffeoepaaaaPSerialAheadx0
import Derived.Test.YtfckgffeoepaaaaPSerialAheadx1
namespace Go.Proofs.Ytfckgffeoepaaaa.PSerialAhead
open Go.RowKit Go.Proofs.YtfckgffeoepaaaaW.PrintWords Go.Proofs.YtfckgffeoepaaaaW.PrintLast Go.Proofs.YtfckgffeoepaaaaW.PrintMore
attribute [local go_sem] max2_int min2_int max_two min_two max_three min_three max_four min_four   -- for this text's walks alone
set_option linter.unusedVariables false
set_option linter.unusedSimpArgs false

/-! ### packthreadkeep_SerialAhead: function 14 -/
mutual
def packthreadkeep_SerialAhead.j0 : Nat → Int → Int → Int → Int → Int → Bool → Option (Bool)
  | 0, _, _, _, _, _, _ => none
  | k + 1, x7, x8, x9, x10, x12, x87 => if x87 = true then (some false) else (if x8 = 0 then (packthreadkeep_SerialAhead.j1 k x7 x8 x9 x10 x12 0) else (packthreadkeep_SerialAhead.j1 k x7 x8 x9 x10 x12 (-1)))
def packthreadkeep_SerialAhead.j1 : Nat → Int → Int → Int → Int → Int → Int → Option (Bool)
  | 0, _, _, _, _, _, _ => none
  | k + 1, x7, x8, x9, x10, x12, x18 => (packthreadkeep_serialOrder.f k x7 x10).bind fun t129 => (if t129 = x18 then ((packthreadkeep_serialOrder.f k x10 x7).bind fun t130 => (packthreadkeep_SerialAhead.j2 k x7 x8 x9 x12 (t130 != (wrap64 (-x18))))) else (packthreadkeep_SerialAhead.j2 k x7 x8 x9 x12 true))
def packthreadkeep_SerialAhead.j2 : Nat → Int → Int → Int → Int → Bool → Option (Bool)
  | 0, _, _, _, _, _ => none
  | k + 1, x7, x8, x9, x12, x102 => if x102 = true then (some false) else (if (wrap64 (x8 + x9)) ≥ 32768 then (some true) else ((serial_Add.f k x7 (wrap64 (x8 + x9))).bind fun bt131 => (if bt131.2 = 0 then (some (bt131.1 == x12)) else (some false))))
end
def packthreadkeep_SerialAhead.f (k : Nat) (a0 : Int) (a1 : Int) (a2 : Int) : Option (Bool) := (packthreadkeep_Picked.f a0 65536).bind fun t118 => ((packthreadkeep_Picked.f a1 32768).bind fun t119 => ((packthreadkeep_Picked.f a2 32768).bind fun t120 => ((serial_Add.f k t118 t119).bind fun bt121 => ((serial_Add.f k bt121.1 t120).bind fun bt123 => ((serial_Far.f k t118 bt121.1).bind fun bt125 => ((serial_Far.f k bt121.1 t118).bind fun bt127 => (if bt121.2 = 0 then (if bt123.2 = 0 then (if bt125.2 = 0 then (if bt127.2 = 0 then (if bt125.1 = t119 then (if bt121.1 < 0 then (packthreadkeep_SerialAhead.j0 k t118 t119 t120 bt121.1 bt123.1 true) else (if bt121.1 ≥ 65536 then (packthreadkeep_SerialAhead.j0 k t118 t119 t120 bt121.1 bt123.1 true) else (if t119 > 0 then (packthreadkeep_SerialAhead.j0 k t118 t119 t120 bt121.1 bt123.1 ((wrap64 (bt125.1 + bt127.1)) != 65536)) else (packthreadkeep_SerialAhead.j0 k t118 t119 t120 bt121.1 bt123.1 false)))) else (packthreadkeep_SerialAhead.j0 k t118 t119 t120 bt121.1 bt123.1 true)) else (packthreadkeep_SerialAhead.j0 k t118 t119 t120 bt121.1 bt123.1 true)) else (packthreadkeep_SerialAhead.j0 k t118 t119 t120 bt121.1 bt123.1 true)) else (packthreadkeep_SerialAhead.j0 k t118 t119 t120 bt121.1 bt123.1 true)) else (packthreadkeep_SerialAhead.j0 k t118 t119 t120 bt121.1 bt123.1 true))))))))
theorem packthreadkeep_SerialAhead.mono_l : ∀ k, (∀ y0 y1 y2 y3 y4 y5, LeO (packthreadkeep_SerialAhead.j0 k y0 y1 y2 y3 y4 y5) (packthreadkeep_SerialAhead.j0 (k + 1) y0 y1 y2 y3 y4 y5)) ∧ (∀ y0 y1 y2 y3 y4 y5, LeO (packthreadkeep_SerialAhead.j1 k y0 y1 y2 y3 y4 y5) (packthreadkeep_SerialAhead.j1 (k + 1) y0 y1 y2 y3 y4 y5)) ∧ (∀ y0 y1 y2 y3 y4, LeO (packthreadkeep_SerialAhead.j2 k y0 y1 y2 y3 y4) (packthreadkeep_SerialAhead.j2 (k + 1) y0 y1 y2 y3 y4))
  | 0 => ⟨fun _ _ _ _ _ _ r h => by simp [packthreadkeep_SerialAhead.j0] at h, fun _ _ _ _ _ _ r h => by simp [packthreadkeep_SerialAhead.j1] at h, fun _ _ _ _ _ r h => by simp [packthreadkeep_SerialAhead.j2] at h⟩
  | k + 1 => by
    obtain ⟨ih0, ih1, ih2⟩ := packthreadkeep_SerialAhead.mono_l k
    refine ⟨?_, ?_, ?_⟩
    · intro y0 y1 y2 y3 y4 y5
      unfold packthreadkeep_SerialAhead.j0
      repeat' first
      | (with_reducible exact ih0 _ _ _ _ _ _)
      | (with_reducible exact ih1 _ _ _ _ _ _)
      | (with_reducible exact ih2 _ _ _ _ _)
      | (with_reducible exact packthreadkeep_serialOrder.mono _ _ _)
      | (with_reducible exact serial_Add.mono _ _ _)
      | (with_reducible exact serial_Far.mono _ _ _)
      | (with_reducible exact LeO.refl _)
      | (with_reducible exact LeO.none _)
      | (with_reducible refine LeO.ite ?_ ?_)
      | (with_reducible refine LeO.bind ?_ (fun _ => ?_))
      | exact ih0 _ _ _ _ _ _
      | exact ih1 _ _ _ _ _ _
      | exact ih2 _ _ _ _ _
      | exact packthreadkeep_serialOrder.mono _ _ _
      | exact serial_Add.mono _ _ _
      | exact serial_Far.mono _ _ _
      | exact LeO.none _
      | refine LeO.ite ?_ ?_
      | refine LeO.bind ?_ (fun _ => ?_)
    · intro y0 y1 y2 y3 y4 y5
      unfold packthreadkeep_SerialAhead.j1
      repeat' first
      | (with_reducible exact ih0 _ _ _ _ _ _)
      | (with_reducible exact ih1 _ _ _ _ _ _)
      | (with_reducible exact ih2 _ _ _ _ _)
      | (with_reducible exact packthreadkeep_serialOrder.mono _ _ _)
      | (with_reducible exact serial_Add.mono _ _ _)
      | (with_reducible exact serial_Far.mono _ _ _)
      | (with_reducible exact LeO.refl _)
      | (with_reducible exact LeO.none _)
      | (with_reducible refine LeO.ite ?_ ?_)
      | (with_reducible refine LeO.bind ?_ (fun _ => ?_))
      | exact ih0 _ _ _ _ _ _
      | exact ih1 _ _ _ _ _ _
      | exact ih2 _ _ _ _ _
      | exact packthreadkeep_serialOrder.mono _ _ _
      | exact serial_Add.mono _ _ _
      | exact serial_Far.mono _ _ _
      | exact LeO.none _
      | refine LeO.ite ?_ ?_
      | refine LeO.bind ?_ (fun _ => ?_)
    · intro y0 y1 y2 y3 y4
      unfold packthreadkeep_SerialAhead.j2
      repeat' first
      | (with_reducible exact ih0 _ _ _ _ _ _)
      | (with_reducible exact ih1 _ _ _ _ _ _)
      | (with_reducible exact ih2 _ _ _ _ _)
      | (with_reducible exact packthreadkeep_serialOrder.mono _ _ _)
      | (with_reducible exact serial_Add.mono _ _ _)
      | (with_reducible exact serial_Far.mono _ _ _)
      | (with_reducible exact LeO.refl _)
      | (with_reducible exact LeO.none _)
      | (with_reducible refine LeO.ite ?_ ?_)
      | (with_reducible refine LeO.bind ?_ (fun _ => ?_))
      | exact ih0 _ _ _ _ _ _
      | exact ih1 _ _ _ _ _ _
      | exact ih2 _ _ _ _ _
      | exact packthreadkeep_serialOrder.mono _ _ _
      | exact serial_Add.mono _ _ _
      | exact serial_Far.mono _ _ _
      | exact LeO.none _
      | refine LeO.ite ?_ ?_
      | refine LeO.bind ?_ (fun _ => ?_)
theorem packthreadkeep_SerialAhead.mono : ∀ a0 a1 a2 k, LeO (packthreadkeep_SerialAhead.f k a0 a1 a2) (packthreadkeep_SerialAhead.f (k + 1) a0 a1 a2) := by
  intro a0 a1 a2 k
  obtain ⟨ih0, ih1, ih2⟩ := packthreadkeep_SerialAhead.mono_l k
  unfold packthreadkeep_SerialAhead.f
  repeat' first
      | (with_reducible exact ih0 _ _ _ _ _ _)
      | (with_reducible exact ih1 _ _ _ _ _ _)
      | (with_reducible exact ih2 _ _ _ _ _)
      | (with_reducible exact packthreadkeep_serialOrder.mono _ _ _)
      | (with_reducible exact serial_Add.mono _ _ _)
      | (with_reducible exact serial_Far.mono _ _ _)
      | (with_reducible exact LeO.refl _)
      | (with_reducible exact LeO.none _)
      | (with_reducible refine LeO.ite ?_ ?_)
      | (with_reducible refine LeO.bind ?_ (fun _ => ?_))
      | exact ih0 _ _ _ _ _ _
      | exact ih1 _ _ _ _ _ _
      | exact ih2 _ _ _ _ _
      | exact packthreadkeep_serialOrder.mono _ _ _
      | exact serial_Add.mono _ _ _
      | exact serial_Far.mono _ _ _
      | exact LeO.none _
      | refine LeO.ite ?_ ?_
      | refine LeO.bind ?_ (fun _ => ?_)
set_option maxHeartbeats 8000000 in
set_option maxRecDepth 100000 in
theorem packthreadkeep_SerialAhead.calls (k : Nat) (a0 : Int) (a1 : Int) (a2 : Int) (r : Bool) (w : World) (h : packthreadkeep_SerialAhead.f k a0 a1 a2 = some r) :
    Calls Try.prog 14 #[.int .i64 a0, .int .i64 a1, .int .i64 a2] w fun e w' => e = .returned (.bool r) ∧ Below w.heap.size w w' := by
  have HB := Aside0.mk (Below.refl w.heap.size w)
  have H : ((packthreadkeep_Picked.f a0 65536).bind fun t118 => ((packthreadkeep_Picked.f a1 32768).bind fun t119 => ((packthreadkeep_Picked.f a2 32768).bind fun t120 => ((serial_Add.f k t118 t119).bind fun bt121 => ((serial_Add.f k bt121.1 t120).bind fun bt123 => ((serial_Far.f k t118 bt121.1).bind fun bt125 => ((serial_Far.f k bt121.1 t118).bind fun bt127 => (if bt121.2 = 0 then (if bt123.2 = 0 then (if bt125.2 = 0 then (if bt127.2 = 0 then (if bt125.1 = t119 then (if bt121.1 < 0 then (packthreadkeep_SerialAhead.j0 k t118 t119 t120 bt121.1 bt123.1 true) else (if bt121.1 ≥ 65536 then (packthreadkeep_SerialAhead.j0 k t118 t119 t120 bt121.1 bt123.1 true) else (if t119 > 0 then (packthreadkeep_SerialAhead.j0 k t118 t119 t120 bt121.1 bt123.1 ((wrap64 (bt125.1 + bt127.1)) != 65536)) else (packthreadkeep_SerialAhead.j0 k t118 t119 t120 bt121.1 bt123.1 false)))) else (packthreadkeep_SerialAhead.j0 k t118 t119 t120 bt121.1 bt123.1 true)) else (packthreadkeep_SerialAhead.j0 k t118 t119 t120 bt121.1 bt123.1 true)) else (packthreadkeep_SerialAhead.j0 k t118 t119 t120 bt121.1 bt123.1 true)) else (packthreadkeep_SerialAhead.j0 k t118 t119 t120 bt121.1 bt123.1 true)) else (packthreadkeep_SerialAhead.j0 k t118 t119 t120 bt121.1 bt123.1 true))))))))) = some r := h
  clear h
  replace H := Option.bind_eq_some_iff.mp H
  obtain ⟨t118, A40, H⟩ := H
  replace H : ((packthreadkeep_Picked.f a1 32768).bind fun t119 => ((packthreadkeep_Picked.f a2 32768).bind fun t120 => ((serial_Add.f k t118 t119).bind fun bt121 => ((serial_Add.f k bt121.1 t120).bind fun bt123 => ((serial_Far.f k t118 bt121.1).bind fun bt125 => ((serial_Far.f k bt121.1 t118).bind fun bt127 => (if bt121.2 = 0 then (if bt123.2 = 0 then (if bt125.2 = 0 then (if bt127.2 = 0 then (if bt125.1 = t119 then (if bt121.1 < 0 then (packthreadkeep_SerialAhead.j0 k t118 t119 t120 bt121.1 bt123.1 true) else (if bt121.1 ≥ 65536 then (packthreadkeep_SerialAhead.j0 k t118 t119 t120 bt121.1 bt123.1 true) else (if t119 > 0 then (packthreadkeep_SerialAhead.j0 k t118 t119 t120 bt121.1 bt123.1 ((wrap64 (bt125.1 + bt127.1)) != 65536)) else (packthreadkeep_SerialAhead.j0 k t118 t119 t120 bt121.1 bt123.1 false)))) else (packthreadkeep_SerialAhead.j0 k t118 t119 t120 bt121.1 bt123.1 true)) else (packthreadkeep_SerialAhead.j0 k t118 t119 t120 bt121.1 bt123.1 true)) else (packthreadkeep_SerialAhead.j0 k t118 t119 t120 bt121.1 bt123.1 true)) else (packthreadkeep_SerialAhead.j0 k t118 t119 t120 bt121.1 bt123.1 true)) else (packthreadkeep_SerialAhead.j0 k t118 t119 t120 bt121.1 bt123.1 true)))))))) = some r := H
  have A4 := Aside0.mk A40
  clear A40
  replace H := Option.bind_eq_some_iff.mp H
  obtain ⟨t119, A50, H⟩ := H
  replace H : ((packthreadkeep_Picked.f a2 32768).bind fun t120 => ((serial_Add.f k t118 t119).bind fun bt121 => ((serial_Add.f k bt121.1 t120).bind fun bt123 => ((serial_Far.f k t118 bt121.1).bind fun bt125 => ((serial_Far.f k bt121.1 t118).bind fun bt127 => (if bt121.2 = 0 then (if bt123.2 = 0 then (if bt125.2 = 0 then (if bt127.2 = 0 then (if bt125.1 = t119 then (if bt121.1 < 0 then (packthreadkeep_SerialAhead.j0 k t118 t119 t120 bt121.1 bt123.1 true) else (if bt121.1 ≥ 65536 then (packthreadkeep_SerialAhead.j0 k t118 t119 t120 bt121.1 bt123.1 true) else (if t119 > 0 then (packthreadkeep_SerialAhead.j0 k t118 t119 t120 bt121.1 bt123.1 ((wrap64 (bt125.1 + bt127.1)) != 65536)) else (packthreadkeep_SerialAhead.j0 k t118 t119 t120 bt121.1 bt123.1 false)))) else (packthreadkeep_SerialAhead.j0 k t118 t119 t120 bt121.1 bt123.1 true)) else (packthreadkeep_SerialAhead.j0 k t118 t119 t120 bt121.1 bt123.1 true)) else (packthreadkeep_SerialAhead.j0 k t118 t119 t120 bt121.1 bt123.1 true)) else (packthreadkeep_SerialAhead.j0 k t118 t119 t120 bt121.1 bt123.1 true)) else (packthreadkeep_SerialAhead.j0 k t118 t119 t120 bt121.1 bt123.1 true))))))) = some r := H
  have A5 := Aside0.mk A50
  clear A50
  replace H := Option.bind_eq_some_iff.mp H
  obtain ⟨t120, A60, H⟩ := H
  replace H : ((serial_Add.f k t118 t119).bind fun bt121 => ((serial_Add.f k bt121.1 t120).bind fun bt123 => ((serial_Far.f k t118 bt121.1).bind fun bt125 => ((serial_Far.f k bt121.1 t118).bind fun bt127 => (if bt121.2 = 0 then (if bt123.2 = 0 then (if bt125.2 = 0 then (if bt127.2 = 0 then (if bt125.1 = t119 then (if bt121.1 < 0 then (packthreadkeep_SerialAhead.j0 k t118 t119 t120 bt121.1 bt123.1 true) else (if bt121.1 ≥ 65536 then (packthreadkeep_SerialAhead.j0 k t118 t119 t120 bt121.1 bt123.1 true) else (if t119 > 0 then (packthreadkeep_SerialAhead.j0 k t118 t119 t120 bt121.1 bt123.1 ((wrap64 (bt125.1 + bt127.1)) != 65536)) else (packthreadkeep_SerialAhead.j0 k t118 t119 t120 bt121.1 bt123.1 false)))) else (packthreadkeep_SerialAhead.j0 k t118 t119 t120 bt121.1 bt123.1 true)) else (packthreadkeep_SerialAhead.j0 k t118 t119 t120 bt121.1 bt123.1 true)) else (packthreadkeep_SerialAhead.j0 k t118 t119 t120 bt121.1 bt123.1 true)) else (packthreadkeep_SerialAhead.j0 k t118 t119 t120 bt121.1 bt123.1 true)) else (packthreadkeep_SerialAhead.j0 k t118 t119 t120 bt121.1 bt123.1 true)))))) = some r := H
  have A6 := Aside0.mk A60
  clear A60
  replace H := Option.bind_eq_some_iff.mp H
  obtain ⟨⟨t121, t122⟩, A70, H⟩ := H
  replace H : ((serial_Add.f k t121 t120).bind fun bt123 => ((serial_Far.f k t118 t121).bind fun bt125 => ((serial_Far.f k t121 t118).bind fun bt127 => (if t122 = 0 then (if bt123.2 = 0 then (if bt125.2 = 0 then (if bt127.2 = 0 then (if bt125.1 = t119 then (if t121 < 0 then (packthreadkeep_SerialAhead.j0 k t118 t119 t120 t121 bt123.1 true) else (if t121 ≥ 65536 then (packthreadkeep_SerialAhead.j0 k t118 t119 t120 t121 bt123.1 true) else (if t119 > 0 then (packthreadkeep_SerialAhead.j0 k t118 t119 t120 t121 bt123.1 ((wrap64 (bt125.1 + bt127.1)) != 65536)) else (packthreadkeep_SerialAhead.j0 k t118 t119 t120 t121 bt123.1 false)))) else (packthreadkeep_SerialAhead.j0 k t118 t119 t120 t121 bt123.1 true)) else (packthreadkeep_SerialAhead.j0 k t118 t119 t120 t121 bt123.1 true)) else (packthreadkeep_SerialAhead.j0 k t118 t119 t120 t121 bt123.1 true)) else (packthreadkeep_SerialAhead.j0 k t118 t119 t120 t121 bt123.1 true)) else (packthreadkeep_SerialAhead.j0 k t118 t119 t120 t121 bt123.1 true))))) = some r := H
  have A7 := Aside0.mk A70
  clear A70
  replace H := Option.bind_eq_some_iff.mp H
  obtain ⟨⟨t123, t124⟩, A80, H⟩ := H
  replace H : ((serial_Far.f k t118 t121).bind fun bt125 => ((serial_Far.f k t121 t118).bind fun bt127 => (if t122 = 0 then (if t124 = 0 then (if bt125.2 = 0 then (if bt127.2 = 0 then (if bt125.1 = t119 then (if t121 < 0 then (packthreadkeep_SerialAhead.j0 k t118 t119 t120 t121 t123 true) else (if t121 ≥ 65536 then (packthreadkeep_SerialAhead.j0 k t118 t119 t120 t121 t123 true) else (if t119 > 0 then (packthreadkeep_SerialAhead.j0 k t118 t119 t120 t121 t123 ((wrap64 (bt125.1 + bt127.1)) != 65536)) else (packthreadkeep_SerialAhead.j0 k t118 t119 t120 t121 t123 false)))) else (packthreadkeep_SerialAhead.j0 k t118 t119 t120 t121 t123 true)) else (packthreadkeep_SerialAhead.j0 k t118 t119 t120 t121 t123 true)) else (packthreadkeep_SerialAhead.j0 k t118 t119 t120 t121 t123 true)) else (packthreadkeep_SerialAhead.j0 k t118 t119 t120 t121 t123 true)) else (packthreadkeep_SerialAhead.j0 k t118 t119 t120 t121 t123 true)))) = some r := H
  have A8 := Aside0.mk A80
  clear A80
  replace H := Option.bind_eq_some_iff.mp H
  obtain ⟨⟨t125, t126⟩, A90, H⟩ := H
  replace H : ((serial_Far.f k t121 t118).bind fun bt127 => (if t122 = 0 then (if t124 = 0 then (if t126 = 0 then (if bt127.2 = 0 then (if t125 = t119 then (if t121 < 0 then (packthreadkeep_SerialAhead.j0 k t118 t119 t120 t121 t123 true) else (if t121 ≥ 65536 then (packthreadkeep_SerialAhead.j0 k t118 t119 t120 t121 t123 true) else (if t119 > 0 then (packthreadkeep_SerialAhead.j0 k t118 t119 t120 t121 t123 ((wrap64 (t125 + bt127.1)) != 65536)) else (packthreadkeep_SerialAhead.j0 k t118 t119 t120 t121 t123 false)))) else (packthreadkeep_SerialAhead.j0 k t118 t119 t120 t121 t123 true)) else (packthreadkeep_SerialAhead.j0 k t118 t119 t120 t121 t123 true)) else (packthreadkeep_SerialAhead.j0 k t118 t119 t120 t121 t123 true)) else (packthreadkeep_SerialAhead.j0 k t118 t119 t120 t121 t123 true)) else (packthreadkeep_SerialAhead.j0 k t118 t119 t120 t121 t123 true))) = some r := H
  have A9 := Aside0.mk A90
  clear A90
  replace H := Option.bind_eq_some_iff.mp H
  obtain ⟨⟨t127, t128⟩, A100, H⟩ := H
  replace H : (if t122 = 0 then (if t124 = 0 then (if t126 = 0 then (if t128 = 0 then (if t125 = t119 then (if t121 < 0 then (packthreadkeep_SerialAhead.j0 k t118 t119 t120 t121 t123 true) else (if t121 ≥ 65536 then (packthreadkeep_SerialAhead.j0 k t118 t119 t120 t121 t123 true) else (if t119 > 0 then (packthreadkeep_SerialAhead.j0 k t118 t119 t120 t121 t123 ((wrap64 (t125 + t127)) != 65536)) else (packthreadkeep_SerialAhead.j0 k t118 t119 t120 t121 t123 false)))) else (packthreadkeep_SerialAhead.j0 k t118 t119 t120 t121 t123 true)) else (packthreadkeep_SerialAhead.j0 k t118 t119 t120 t121 t123 true)) else (packthreadkeep_SerialAhead.j0 k t118 t119 t120 t121 t123 true)) else (packthreadkeep_SerialAhead.j0 k t118 t119 t120 t121 t123 true)) else (packthreadkeep_SerialAhead.j0 k t118 t119 t120 t121 t123 true)) = some r := H
  have A10 := Aside0.mk A100
  clear A100
  have HC11 := Aside0.mk H
  clear H
  go_enter Try.func14, Try.ntmps14
  go_upto_region 8 with (first | ((with_reducible refine gate_callee (f := 16) rfl ?_); refine goesL_ (some 22) rfl rfl Try.func16 (by kernel_rfl) rfl #[.int .i64 a0, .int .i64 65536] rfl (by (try simp only [List.map_toArray, List.map_cons, List.map_nil]); first | done | rfl | (simp only [List.length_drop, List.length_take]; rfl)) ?_; (with_reducible refine (packthreadkeep_Picked.calls a0 65536 t118 _ A4.out).mono ?_); rintro e w' ⟨rfl, ⟨nd, rfl⟩⟩; refine ⟨_, rfl, ?_⟩) | ((with_reducible refine gate_callee (f := 16) rfl ?_); refine goesL_ (some 24) rfl rfl Try.func16 (by kernel_rfl) rfl #[.int .i64 a1, .int .i64 32768] rfl (by (try simp only [List.map_toArray, List.map_cons, List.map_nil]); first | done | rfl | (simp only [List.length_drop, List.length_take]; rfl)) ?_; (with_reducible refine (packthreadkeep_Picked.calls a1 32768 t119 _ A5.out).mono ?_); rintro e w' ⟨rfl, ⟨nd, rfl⟩⟩; refine ⟨_, rfl, ?_⟩) | ((with_reducible refine gate_callee (f := 16) rfl ?_); refine goesL_ (some 26) rfl rfl Try.func16 (by kernel_rfl) rfl #[.int .i64 a2, .int .i64 32768] rfl (by (try simp only [List.map_toArray, List.map_cons, List.map_nil]); first | done | rfl | (simp only [List.length_drop, List.length_take]; rfl)) ?_; (with_reducible refine (packthreadkeep_Picked.calls a2 32768 t120 _ A6.out).mono ?_); rintro e w' ⟨rfl, ⟨nd, rfl⟩⟩; refine ⟨_, rfl, ?_⟩) | ((with_reducible refine gate_callee (f := 21) rfl ?_); refine goesL_ (some 30) rfl rfl Try.func21 (by kernel_rfl) rfl #[.int .i64 t118, .int .i64 t119] rfl (by (try simp only [List.map_toArray, List.map_cons, List.map_nil]); first | done | rfl | (simp only [List.length_drop, List.length_take]; rfl)) ?_; (with_reducible refine (serial_Add.calls k t118 t119 t121 t122 _ A7.out).mono ?_); rintro e w12 ⟨rfl, hb⟩; refine ⟨_, rfl, ?_⟩; have n0_ := Aside0.mk (below_step (by repeat (first | (with_reducible first | exact HB.out | apply below_alloc | apply pw_below_drewN | apply below_drew1) | exact HB.out)) hb); clear HB; have HB := n0_; clear n0_; (try clear hb); (try clear hb2); (try clear hk); (try clear hi)) | ((with_reducible refine gate_callee (f := 21) rfl ?_); refine goesL_ (some 36) rfl rfl Try.func21 (by kernel_rfl) rfl #[.int .i64 t121, .int .i64 t120] rfl (by (try simp only [List.map_toArray, List.map_cons, List.map_nil]); first | done | rfl | (simp only [List.length_drop, List.length_take]; rfl)) ?_; (with_reducible refine (serial_Add.calls k t121 t120 t123 t124 _ A8.out).mono ?_); rintro e w13 ⟨rfl, hb⟩; refine ⟨_, rfl, ?_⟩; have n0_ := Aside0.mk (below_step (by repeat (first | (with_reducible first | exact HB.out | apply below_alloc | apply pw_below_drewN | apply below_drew1) | exact HB.out)) hb); clear HB; have HB := n0_; clear n0_; (try clear hb); (try clear hb2); (try clear hk); (try clear hi)) | ((with_reducible refine gate_callee (f := 23) rfl ?_); refine goesL_ (some 42) rfl rfl Try.func23 (by kernel_rfl) rfl #[.int .i64 t118, .int .i64 t121] rfl (by (try simp only [List.map_toArray, List.map_cons, List.map_nil]); first | done | rfl | (simp only [List.length_drop, List.length_take]; rfl)) ?_; (with_reducible refine (serial_Far.calls k t118 t121 t125 t126 _ A9.out).mono ?_); rintro e w14 ⟨rfl, hb⟩; refine ⟨_, rfl, ?_⟩; have n0_ := Aside0.mk (below_step (by repeat (first | (with_reducible first | exact HB.out | apply below_alloc | apply pw_below_drewN | apply below_drew1) | exact HB.out)) hb); clear HB; have HB := n0_; clear n0_; (try clear hb); (try clear hb2); (try clear hk); (try clear hi)) | ((with_reducible refine gate_callee (f := 23) rfl ?_); refine goesL_ (some 48) rfl rfl Try.func23 (by kernel_rfl) rfl #[.int .i64 t121, .int .i64 t118] rfl (by (try simp only [List.map_toArray, List.map_cons, List.map_nil]); first | done | rfl | (simp only [List.length_drop, List.length_take]; rfl)) ?_; (with_reducible refine (serial_Far.calls k t121 t118 t127 t128 _ A10.out).mono ?_); rintro e w15 ⟨rfl, hb⟩; refine ⟨_, rfl, ?_⟩; have n0_ := Aside0.mk (below_step (by repeat (first | (with_reducible first | exact HB.out | apply below_alloc | apply pw_below_drewN | apply below_drew1) | exact HB.out)) hb); clear HB; have HB := n0_; clear n0_; (try clear hb); (try clear hb2); (try clear hk); (try clear hi)))
  (try simp only [Act.put, List.setIfInBounds_toArray, List.set_cons_zero, List.set_cons_succ])
  go_cut [87] (fun v87 wc => ∃ (kq : Nat) (x87_10 : Bool), v87 = .bool x87_10 ∧ Aside0 (packthreadkeep_SerialAhead.j0 kq t118 t119 t120 t121 t123 x87_10 = some r) ∧ Aside0 (kq ≤ k) ∧ Aside0 (Below w.heap.size w wc))
  case first =>
    have H := HC11.out
    clear HC11
    by_cases c16 : t122 = 0
    · rw [if_pos c16] at H
      have c16b0 : (t122 == 0) = true := beq_iff_eq.mpr c16
      have c16b1 : (t122 != 0) = false := bne_eq_false_iff_eq.mpr c16
      clear c16
      (first | rw [c16b0] | (simp only [i64_w, i32_w]; rw [c16b0]) | skip)
      by_cases c17 : t124 = 0
      · rw [if_pos c17] at H
        have c17b0 : (t124 == 0) = true := beq_iff_eq.mpr c17
        have c17b1 : (t124 != 0) = false := bne_eq_false_iff_eq.mpr c17
        clear c17
        by_cases c18 : t126 = 0
        · rw [if_pos c18] at H
          have c18b0 : (t126 == 0) = true := beq_iff_eq.mpr c18
          have c18b1 : (t126 != 0) = false := bne_eq_false_iff_eq.mpr c18
          clear c18
          by_cases c19 : t128 = 0
          · rw [if_pos c19] at H
            have c19b0 : (t128 == 0) = true := beq_iff_eq.mpr c19
            have c19b1 : (t128 != 0) = false := bne_eq_false_iff_eq.mpr c19
            clear c19
            by_cases c20 : t125 = t119
            · rw [if_pos c20] at H
              have c20b0 : (t125 == t119) = true := beq_iff_eq.mpr c20
              have c20b1 : (t125 != t119) = false := bne_eq_false_iff_eq.mpr c20
              clear c20
              by_cases c21 : t121 < 0
              · rw [if_pos c21] at H
                have c21b0 : decide (t121 < 0) = true := decide_eq_true c21
                clear c21
                have H' := Aside0.mk H
                clear H
                go_wp2
                go_meet
                case rel => exact ⟨_, (true), (by first | rfl | (simp; done) | (simp [*]; done)), H', ⟨by first | omega | exact Nat.le_refl _⟩, ⟨by repeat (first | (with_reducible first | exact HB.out | apply below_alloc | apply pw_below_drewN | apply below_drew1) | exact HB.out)⟩⟩
              · rw [if_neg c21] at H
                have c21b0 : decide (t121 < 0) = false := decide_eq_false c21
                clear c21
                by_cases c22 : t121 ≥ 65536
                · rw [if_pos c22] at H
                  have c22b0 : decide (65536 ≤ t121) = true := decide_eq_true c22
                  clear c22
                  have H' := Aside0.mk H
                  clear H
                  go_wp2
                  go_meet
                  case rel => exact ⟨_, (true), (by first | rfl | (simp; done) | (simp [*]; done)), H', ⟨by first | omega | exact Nat.le_refl _⟩, ⟨by repeat (first | (with_reducible first | exact HB.out | apply below_alloc | apply pw_below_drewN | apply below_drew1) | exact HB.out)⟩⟩
                · rw [if_neg c22] at H
                  have c22b0 : decide (65536 ≤ t121) = false := decide_eq_false c22
                  clear c22
                  by_cases c23 : t119 > 0
                  · rw [if_pos c23] at H
                    have c23b0 : decide (0 < t119) = true := decide_eq_true c23
                    clear c23
                    have H' := Aside0.mk H
                    clear H
                    go_wp2
                    go_meet
                    case rel => exact ⟨_, (((wrap64 (t125 + t127)) != 65536)), (by first | rfl | (simp; done) | (simp [*]; done)), H', ⟨by first | omega | exact Nat.le_refl _⟩, ⟨by repeat (first | (with_reducible first | exact HB.out | apply below_alloc | apply pw_below_drewN | apply below_drew1) | exact HB.out)⟩⟩
                  · rw [if_neg c23] at H
                    have c23b0 : decide (0 < t119) = false := decide_eq_false c23
                    clear c23
                    have H' := Aside0.mk H
                    clear H
                    go_wp2
                    go_meet
                    case rel => exact ⟨_, (false), (by first | rfl | (simp; done) | (simp [*]; done)), H', ⟨by first | omega | exact Nat.le_refl _⟩, ⟨by repeat (first | (with_reducible first | exact HB.out | apply below_alloc | apply pw_below_drewN | apply below_drew1) | exact HB.out)⟩⟩
            · rw [if_neg c20] at H
              have c20b0 : (t125 == t119) = false := beq_eq_false_iff_ne.mpr c20
              have c20b1 : (t125 != t119) = true := bne_iff_ne.mpr c20
              have H' := Aside0.mk H
              clear H
              go_wp2
              go_meet
              case rel => exact ⟨_, (true), (by first | rfl | (simp; done) | (simp [*]; done)), H', ⟨by first | omega | exact Nat.le_refl _⟩, ⟨by repeat (first | (with_reducible first | exact HB.out | apply below_alloc | apply pw_below_drewN | apply below_drew1) | exact HB.out)⟩⟩
          · rw [if_neg c19] at H
            have c19b0 : (t128 == 0) = false := beq_eq_false_iff_ne.mpr c19
            have c19b1 : (t128 != 0) = true := bne_iff_ne.mpr c19
            have H' := Aside0.mk H
            clear H
            go_wp2
            go_meet
            case rel => exact ⟨_, (true), (by first | rfl | (simp; done) | (simp [*]; done)), H', ⟨by first | omega | exact Nat.le_refl _⟩, ⟨by repeat (first | (with_reducible first | exact HB.out | apply below_alloc | apply pw_below_drewN | apply below_drew1) | exact HB.out)⟩⟩
        · rw [if_neg c18] at H
          have c18b0 : (t126 == 0) = false := beq_eq_false_iff_ne.mpr c18
          have c18b1 : (t126 != 0) = true := bne_iff_ne.mpr c18
          have H' := Aside0.mk H
          clear H
          go_wp2
          go_meet
          case rel => exact ⟨_, (true), (by first | rfl | (simp; done) | (simp [*]; done)), H', ⟨by first | omega | exact Nat.le_refl _⟩, ⟨by repeat (first | (with_reducible first | exact HB.out | apply below_alloc | apply pw_below_drewN | apply below_drew1) | exact HB.out)⟩⟩
      · rw [if_neg c17] at H
        have c17b0 : (t124 == 0) = false := beq_eq_false_iff_ne.mpr c17
        have c17b1 : (t124 != 0) = true := bne_iff_ne.mpr c17
        have H' := Aside0.mk H
        clear H
        go_wp2
        go_meet
        case rel => exact ⟨_, (true), (by first | rfl | (simp; done) | (simp [*]; done)), H', ⟨by first | omega | exact Nat.le_refl _⟩, ⟨by repeat (first | (with_reducible first | exact HB.out | apply below_alloc | apply pw_below_drewN | apply below_drew1) | exact HB.out)⟩⟩
    · rw [if_neg c16] at H
      have c16b0 : (t122 == 0) = false := beq_eq_false_iff_ne.mpr c16
      have c16b1 : (t122 != 0) = true := bne_iff_ne.mpr c16
      (first | rw [c16b0] | (simp only [i64_w, i32_w]; rw [c16b0]) | skip)
      have H' := Aside0.mk H
      clear H
      go_wp2
      go_meet
      case rel => exact ⟨_, (true), (by first | rfl | (simp; done) | (simp [*]; done)), H', ⟨by first | omega | exact Nat.le_refl _⟩, ⟨by repeat (first | (with_reducible first | exact HB.out | apply below_alloc | apply pw_below_drewN | apply below_drew1) | exact HB.out)⟩⟩
  case rest =>
    clear HC11
    try clear c1
    try clear c2
    try clear p2
    try clear p6
    try clear c14
    try clear c16
    try clear c16b0
    try clear c16b1
    try clear c17
    try clear c17b0
    try clear c17b1
    try clear c18
    try clear c18b0
    try clear c18b1
    try clear c19
    try clear c19b0
    try clear c19b1
    try clear c20
    try clear c20b0
    try clear c20b1
    try clear c21
    try clear c21b0
    try clear c22
    try clear c22b0
    try clear c23
    try clear c23b0
    obtain ⟨kq, x87_10, rfl, HA, HJ10, HB⟩ := hcut
    cases kq with
    | zero => exact absurd HA.out (by simp [packthreadkeep_SerialAhead.j0])
    | succ kj10 =>
      have H := HA.out
      clear HA
      simp only [packthreadkeep_SerialAhead.j0] at H
      by_cases c24 : x87_10 = true
      · subst c24
        have H1 : (some false) = some r := by rw [if_pos rfl] at H; exact H
        clear H
        have H := H1
        clear H1
        obtain rfl := Option.some.inj H
        go_wp2
        go_ret
        exact ⟨by first | rfl | (simp [errW_none, errW_some] <;> rfl) | (simp [*, errW_none, errW_some] <;> rfl), by repeat (first | (with_reducible first | exact HB.out | apply below_alloc | apply pw_below_drewN | apply below_drew1) | exact HB.out)⟩
      · replace c24 := Bool.eq_false_iff.mpr c24
        subst c24
        have H1 : (if t119 = 0 then (packthreadkeep_SerialAhead.j1 kj10 t118 t119 t120 t121 t123 0) else (packthreadkeep_SerialAhead.j1 kj10 t118 t119 t120 t121 t123 (-1))) = some r := by rw [if_neg (show ¬ (false = true) by decide)] at H; exact H
        clear H
        have H := H1
        clear H1
        have HC25 := Aside0.mk H
        clear H
        go_upto_if 89 with (fail)
        go_cut [18] (fun v18 wc => ∃ (kq : Nat) (x18_24 : Int), v18 = .int .i64 x18_24 ∧ Aside0 (packthreadkeep_SerialAhead.j1 kq t118 t119 t120 t121 t123 x18_24 = some r) ∧ Aside0 (kq ≤ kj10) ∧ Aside0 (Below w.heap.size w wc))
        case first =>
          have H := HC25.out
          clear HC25
          by_cases c26 : t119 = 0
          · rw [if_pos c26] at H
            have c26b0 : (t119 == 0) = true := beq_iff_eq.mpr c26
            have c26b1 : (t119 != 0) = false := bne_eq_false_iff_eq.mpr c26
            clear c26
            (first | rw [c26b0] | (simp only [i64_w, i32_w]; rw [c26b0]) | skip)
            have H' := Aside0.mk H
            clear H
            go_wp2
            go_meet
            case rel => exact ⟨_, (0), (by first | rfl | (simp; done) | (simp [*]; done)), H', ⟨by have := HJ10.out; first | omega | exact Nat.le_refl _⟩, ⟨by repeat (first | (with_reducible first | exact HB.out | apply below_alloc | apply pw_below_drewN | apply below_drew1) | exact HB.out)⟩⟩
          · rw [if_neg c26] at H
            have c26b0 : (t119 == 0) = false := beq_eq_false_iff_ne.mpr c26
            have c26b1 : (t119 != 0) = true := bne_iff_ne.mpr c26
            (first | rw [c26b0] | (simp only [i64_w, i32_w]; rw [c26b0]) | skip)
            have H' := Aside0.mk H
            clear H
            go_wp2
            go_meet
            case rel => exact ⟨_, ((-1)), (by first | rfl | (simp; done) | (simp [*]; done)), H', ⟨by have := HJ10.out; first | omega | exact Nat.le_refl _⟩, ⟨by repeat (first | (with_reducible first | exact HB.out | apply below_alloc | apply pw_below_drewN | apply below_drew1) | exact HB.out)⟩⟩
        case rest =>
          clear HC25
          try clear c1
          try clear c2
          try clear p2
          try clear p6
          try clear c14
          try clear c16
          try clear c16b0
          try clear c16b1
          try clear c17
          try clear c17b0
          try clear c17b1
          try clear c18
          try clear c18b0
          try clear c18b1
          try clear c19
          try clear c19b0
          try clear c19b1
          try clear c20
          try clear c20b0
          try clear c20b1
          try clear c21
          try clear c21b0
          try clear c22
          try clear c22b0
          try clear c23
          try clear c23b0
          try clear c24
          try clear c26
          try clear c26b0
          try clear c26b1
          try clear p2
          try clear p6
          obtain ⟨kq, x18_24, rfl, HA, HJ24, HB⟩ := hcut
          cases kq with
          | zero => exact absurd HA.out (by simp [packthreadkeep_SerialAhead.j1])
          | succ kj24 =>
            have H := HA.out
            clear HA
            simp only [packthreadkeep_SerialAhead.j1] at H
            have HC27 := Aside0.mk H
            clear H
            go_upto_region 13 with (fail)
            go_cut [102] (fun v102 wc => ∃ (kq : Nat) (x102_26 : Bool), v102 = .bool x102_26 ∧ Aside0 (packthreadkeep_SerialAhead.j2 kq t118 t119 t120 t123 x102_26 = some r) ∧ Aside0 (kq ≤ kj24) ∧ Aside0 (Below w.heap.size w wc))
            case first =>
              have H := HC27.out
              clear HC27
              replace H := Option.bind_eq_some_iff.mp H
              obtain ⟨t129, A280, H⟩ := H
              replace H : (if t129 = x18_24 then ((packthreadkeep_serialOrder.f kj24 t121 t118).bind fun t130 => (packthreadkeep_SerialAhead.j2 kj24 t118 t119 t120 t123 (t130 != (wrap64 (-x18_24))))) else (packthreadkeep_SerialAhead.j2 kj24 t118 t119 t120 t123 true)) = some r := H
              have A28 := Aside0.mk A280
              clear A280
              by_cases c29 : t129 = x18_24
              · rw [if_pos c29] at H
                have c29b0 : (t129 == x18_24) = true := beq_iff_eq.mpr c29
                have c29b1 : (t129 != x18_24) = false := bne_eq_false_iff_eq.mpr c29
                clear c29
                (first | rw [c29b0] | (simp only [i64_w, i32_w]; rw [c29b0]) | skip)
                replace H := Option.bind_eq_some_iff.mp H
                obtain ⟨t130, A300, H⟩ := H
                replace H : (packthreadkeep_SerialAhead.j2 kj24 t118 t119 t120 t123 (t130 != (wrap64 (-x18_24)))) = some r := H
                have A30 := Aside0.mk A300
                clear A300
                have H' := Aside0.mk H
                clear H
                go_wp2_with (first | ((with_reducible refine gate_callee (f := 27) rfl ?_); refine goesL_ (some 92) rfl rfl Try.func27 (by kernel_rfl) rfl #[.int .i64 t118, .int .i64 t121] rfl (by (try simp only [List.map_toArray, List.map_cons, List.map_nil]); first | done | rfl | (simp only [List.length_drop, List.length_take]; rfl)) ?_; (with_reducible refine (packthreadkeep_serialOrder.calls kj24 t118 t121 t129 _ A28.out).mono ?_); rintro e w31 ⟨rfl, hb⟩; refine ⟨_, rfl, ?_⟩; have n0_ := Aside0.mk (below_step (by repeat (first | (with_reducible first | exact HB.out | apply below_alloc | apply pw_below_drewN | apply below_drew1) | exact HB.out)) hb); clear HB; have HB := n0_; clear n0_; (try clear hb); (try clear hb2); (try clear hk); (try clear hi)) | (go_at_call 27; (with_reducible refine (packthreadkeep_serialOrder.calls kj24 t121 t118 t130 _ A30.out).mono ?_); rintro e w32 ⟨rfl, hb⟩; have n0_ := Aside0.mk (below_step (by repeat (first | (with_reducible first | exact HB.out | apply below_alloc | apply pw_below_drewN | apply below_drew1) | exact HB.out)) hb); clear HB; have HB := n0_; clear n0_; (try clear hb); (try clear hb2); (try clear hk); (try clear hi)))
                go_meet
                case rel => exact ⟨_, ((t130 != (wrap64 (-x18_24)))), (by first | rfl | (simp; done) | (simp [*]; done)), H', ⟨by have := HJ10.out; have := HJ24.out; first | omega | exact Nat.le_refl _⟩, ⟨by repeat (first | (with_reducible first | exact HB.out | apply below_alloc | apply pw_below_drewN | apply below_drew1) | exact HB.out)⟩⟩
              · rw [if_neg c29] at H
                have c29b0 : (t129 == x18_24) = false := beq_eq_false_iff_ne.mpr c29
                have c29b1 : (t129 != x18_24) = true := bne_iff_ne.mpr c29
                (first | rw [c29b0] | (simp only [i64_w, i32_w]; rw [c29b0]) | skip)
                have H' := Aside0.mk H
                clear H
                go_wp2_with (first | ((with_reducible refine gate_callee (f := 27) rfl ?_); refine goesL_ (some 92) rfl rfl Try.func27 (by kernel_rfl) rfl #[.int .i64 t118, .int .i64 t121] rfl (by (try simp only [List.map_toArray, List.map_cons, List.map_nil]); first | done | rfl | (simp only [List.length_drop, List.length_take]; rfl)) ?_; (with_reducible refine (packthreadkeep_serialOrder.calls kj24 t118 t121 t129 _ A28.out).mono ?_); rintro e w33 ⟨rfl, hb⟩; refine ⟨_, rfl, ?_⟩; have n0_ := Aside0.mk (below_step (by repeat (first | (with_reducible first | exact HB.out | apply below_alloc | apply pw_below_drewN | apply below_drew1) | exact HB.out)) hb); clear HB; have HB := n0_; clear n0_; (try clear hb); (try clear hb2); (try clear hk); (try clear hi)))
                go_meet
                case rel => exact ⟨_, (true), (by first | rfl | (simp; done) | (simp [*]; done)), H', ⟨by have := HJ10.out; have := HJ24.out; first | omega | exact Nat.le_refl _⟩, ⟨by repeat (first | (with_reducible first | exact HB.out | apply below_alloc | apply pw_below_drewN | apply below_drew1) | exact HB.out)⟩⟩
            case rest =>
              clear HC27
              try clear c1
              try clear c2
              try clear p2
              try clear p6
              try clear c14
              try clear c16
              try clear c16b0
              try clear c16b1
              try clear c17
              try clear c17b0
              try clear c17b1
              try clear c18
              try clear c18b0
              try clear c18b1
              try clear c19
              try clear c19b0
              try clear c19b1
              try clear c20
              try clear c20b0
              try clear c20b1
              try clear c21
              try clear c21b0
              try clear c22
              try clear c22b0
              try clear c23
              try clear c23b0
              try clear c24
              try clear c26
              try clear c26b0
              try clear c26b1
              try clear c27
              try clear c29
              try clear c29b0
              try clear c29b1
              try clear p2
              try clear p6
              obtain ⟨kq, x102_26, rfl, HA, HJ26, HB⟩ := hcut
              cases kq with
              | zero => exact absurd HA.out (by simp [packthreadkeep_SerialAhead.j2])
              | succ kj26 =>
                have H := HA.out
                clear HA
                simp only [packthreadkeep_SerialAhead.j2] at H
                by_cases c34 : x102_26 = true
                · subst c34
                  have H1 : (some false) = some r := by rw [if_pos rfl] at H; exact H
                  clear H
                  have H := H1
                  clear H1
                  obtain rfl := Option.some.inj H
                  go_wp2
                  go_ret
                  exact ⟨by first | rfl | (simp [errW_none, errW_some] <;> rfl) | (simp [*, errW_none, errW_some] <;> rfl), by repeat (first | (with_reducible first | exact HB.out | apply below_alloc | apply pw_below_drewN | apply below_drew1) | exact HB.out)⟩
                · replace c34 := Bool.eq_false_iff.mpr c34
                  subst c34
                  have H1 : (if (wrap64 (t119 + t120)) ≥ 32768 then (some true) else ((serial_Add.f kj26 t118 (wrap64 (t119 + t120))).bind fun bt131 => (if bt131.2 = 0 then (some (bt131.1 == t123)) else (some false)))) = some r := by rw [if_neg (show ¬ (false = true) by decide)] at H; exact H
                  clear H
                  have H := H1
                  clear H1
                  by_cases c35 : (wrap64 (t119 + t120)) ≥ 32768
                  · rw [if_pos c35] at H
                    have c35b0 : decide (32768 ≤ (wrap64 (t119 + t120))) = true := decide_eq_true c35
                    clear c35
                    obtain rfl := Option.some.inj H
                    go_wp2
                    go_ret
                    exact ⟨by first | rfl | (simp [errW_none, errW_some] <;> rfl) | (simp [*, errW_none, errW_some] <;> rfl), by repeat (first | (with_reducible first | exact HB.out | apply below_alloc | apply pw_below_drewN | apply below_drew1) | exact HB.out)⟩
                  · rw [if_neg c35] at H
                    have c35b0 : decide (32768 ≤ (wrap64 (t119 + t120))) = false := decide_eq_false c35
                    clear c35
                    replace H := Option.bind_eq_some_iff.mp H
                    obtain ⟨⟨t131, t132⟩, A360, H⟩ := H
                    replace H : (if t132 = 0 then (some (t131 == t123)) else (some false)) = some r := H
                    have A36 := Aside0.mk A360
                    clear A360
                    by_cases c37 : t132 = 0
                    · rw [if_pos c37] at H
                      have c37b0 : (t132 == 0) = true := beq_iff_eq.mpr c37
                      have c37b1 : (t132 != 0) = false := bne_eq_false_iff_eq.mpr c37
                      clear c37
                      obtain rfl := Option.some.inj H
                      go_wp2_with (first | ((with_reducible refine gate_callee (f := 21) rfl ?_); refine goesL_ (some 112) rfl rfl Try.func21 (by kernel_rfl) rfl #[.int .i64 t118, .int .i64 (wrap64 (t119 + t120))] rfl (by (try simp only [List.map_toArray, List.map_cons, List.map_nil]); first | done | rfl | (simp only [List.length_drop, List.length_take]; rfl)) ?_; (with_reducible refine (serial_Add.calls kj26 t118 (wrap64 (t119 + t120)) t131 t132 _ A36.out).mono ?_); rintro e w38 ⟨rfl, hb⟩; refine ⟨_, rfl, ?_⟩; have n0_ := Aside0.mk (below_step (by repeat (first | (with_reducible first | exact HB.out | apply below_alloc | apply pw_below_drewN | apply below_drew1) | exact HB.out)) hb); clear HB; have HB := n0_; clear n0_; (try clear hb); (try clear hb2); (try clear hk); (try clear hi)))
                      go_ret
                      exact ⟨by first | rfl | (simp [errW_none, errW_some] <;> rfl) | (simp [*, errW_none, errW_some] <;> rfl), by repeat (first | (with_reducible first | exact HB.out | apply below_alloc | apply pw_below_drewN | apply below_drew1) | exact HB.out)⟩
                    · rw [if_neg c37] at H
                      have c37b0 : (t132 == 0) = false := beq_eq_false_iff_ne.mpr c37
                      have c37b1 : (t132 != 0) = true := bne_iff_ne.mpr c37
                      obtain rfl := Option.some.inj H
                      go_wp2_with (first | ((with_reducible refine gate_callee (f := 21) rfl ?_); refine goesL_ (some 112) rfl rfl Try.func21 (by kernel_rfl) rfl #[.int .i64 t118, .int .i64 (wrap64 (t119 + t120))] rfl (by (try simp only [List.map_toArray, List.map_cons, List.map_nil]); first | done | rfl | (simp only [List.length_drop, List.length_take]; rfl)) ?_; (with_reducible refine (serial_Add.calls kj26 t118 (wrap64 (t119 + t120)) t131 t132 _ A36.out).mono ?_); rintro e w39 ⟨rfl, hb⟩; refine ⟨_, rfl, ?_⟩; have n0_ := Aside0.mk (below_step (by repeat (first | (with_reducible first | exact HB.out | apply below_alloc | apply pw_below_drewN | apply below_drew1) | exact HB.out)) hb); clear HB; have HB := n0_; clear n0_; (try clear hb); (try clear hb2); (try clear hk); (try clear hi)))
                      go_ret
                      exact ⟨by first | rfl | (simp [errW_none, errW_some] <;> rfl) | (simp [*, errW_none, errW_some] <;> rfl), by repeat (first | (with_reducible first | exact HB.out | apply below_alloc | apply pw_below_drewN | apply below_drew1) | exact HB.out)⟩

/-- THE ONE PURE STATEMENT of packthreadkeep_SerialAhead: yours. -/
def packthreadkeep_SerialAhead.Pure : Prop := ∀ (a0 : Int) (a1 : Int) (a2 : Int), (Lit.int .i64 a0).wf = true → (Lit.int .i64 a1).wf = true → (Lit.int .i64 a2).wf = true → ∃ k, packthreadkeep_SerialAhead.f k a0 a1 a2 = some true
theorem packthreadkeep_SerialAhead.walk (P : packthreadkeep_SerialAhead.Pure) (a0 : Int) (a1 : Int) (a2 : Int) (w : World) (w0 : (Lit.int .i64 a0).wf = true) (w1 : (Lit.int .i64 a1).wf = true) (w2 : (Lit.int .i64 a2).wf = true) :
    Calls Try.prog 14 #[.int .i64 a0, .int .i64 a1, .int .i64 a2] w fun e w' => e = .returned (.bool true) ∧ Below w.heap.size w w' := by
  obtain ⟨k, h⟩ := P a0 a1 a2 w0 w1 w2
  refine (packthreadkeep_SerialAhead.calls k a0 a1 a2 true w h).mono ?_
  rintro e w' ⟨rfl, hd⟩
  exact ⟨rfl, hd⟩

end Go.Proofs.Ytfckgffeoepaaaa.PSerialAhead
