/- Printed by a program of this session (wip/myprint.py): Go functions of the law as Lean functions, and the proof that the code comes to these answers. -/
import Derived.Test.YtlgehakaedokeaaPFetchStillx0
import Derived.Test.YtlgehakaedokeaaPFetchStillx2
import Derived.Test.YtlgehakaedokeaaPFetchStillx3
namespace Go.Proofs.Ytlgehakaedokeaa.PFetchStill
open Go.RowKit Go.Proofs.YtlgehakaedokeaaW.PrintWords Go.Proofs.YtlgehakaedokeaaW.PrintLast Go.Proofs.YtlgehakaedokeaaW.PrintMore
attribute [local go_sem] max2_int min2_int max_two min_two max_three min_three max_four min_four   -- for this text's walks alone
attribute [local go_sem] pn_setCell_drewN
set_option linter.unusedVariables false
set_option linter.unusedSimpArgs false

/-! ### packthreadkeep_FetchStill: function 13 -/
mutual
def packthreadkeep_FetchStill.l0 : Nat → List Int → List Int → List Int → List (S65) → Int → Option (Bool)
  | 0, _, _, _, _, _ => none
  | k + 1, x2, x3, x9, x10, x11 => if x11 < (x2.length : Int) then (packthreadkeep_FetchStill.j1 k x2 x3 x9 x10 x11 (decide (x11 < 60))) else (packthreadkeep_FetchStill.j1 k x2 x3 x9 x10 x11 false)
def packthreadkeep_FetchStill.j1 : Nat → List Int → List Int → List Int → List (S65) → Int → Bool → Option (Bool)
  | 0, _, _, _, _, _, _ => none
  | k + 1, x2, x3, x9, x10, x11, x35 => if x35 = true then (if 0 ≤ x11 then (if x11 < (x2.length : Int) then ((packthreadkeep_Picked.f (rd x2 x11) 9).bind fun t125 => (if (wrap64 (t125 * 100)) < (x9.length : Int) then (if 0 ≤ (wrap64 (t125 * 100)) then (if (wrap64 (t125 * 100)) ≤ (mn (wrap64 ((wrap64 (t125 * 100)) + 100)) (x9.length : Int)) then (if (mn (wrap64 ((wrap64 (t125 * 100)) + 100)) (x9.length : Int)) ≤ (x9.length : Int) then ((some ((x9.take ((mn (wrap64 ((wrap64 (t125 * 100)) + 100)) (x9.length : Int)) : Int).toNat).drop ((wrap64 (t125 * 100)) : Int).toNat : List Int)).bind fun y126 => (if ([] : List Int).length + y126.length < 140737488355328 then (if x10.length < 3518437208883 then (packthreadkeep_FetchStill.l0 k x2 x3 x9 (x10 ++ [(⟨wrap64 (t125 * 100), 100, (([] : List Int) ++ y126)⟩ : S65)]) (wrap64 (x11 + 1))) else (none)) else (none))) else (none)) else (none)) else (none)) else (if x10.length < 3518437208883 then (packthreadkeep_FetchStill.l0 k x2 x3 x9 (x10 ++ [(⟨wrap64 (t125 * 100), 100, ([] : List Int)⟩ : S65)]) (wrap64 (x11 + 1))) else (none)))) else (none)) else (none)) else (if ([] : List (S65)).length + x10.length < 3518437208883 then ((fetch_Play.f (([] : List (S65)) ++ x10)).bind fun bt143 => (if bt143.2 = 0 then (if (bt143.1.length : Int) = (wrap64 ((x10.length : Int) + 1)) then (if 0 < (bt143.1.length : Int) then (packthreadkeep_FetchStill.j2 k x3 x10 bt143.1 ((((rd_T71 bt143.1 0).f1).length : Int) != 6)) else (none)) else (packthreadkeep_FetchStill.j2 k x3 x10 bt143.1 true)) else (packthreadkeep_FetchStill.j2 k x3 x10 bt143.1 true))) else (none))
def packthreadkeep_FetchStill.j2 : Nat → List Int → List (S65) → List (S71) → Bool → Option (Bool)
  | 0, _, _, _, _ => none
  | k + 1, x3, x10, x14, x87 => if x87 = true then (some false) else (packthreadkeep_FetchStill.l1 k x3 x10 x14 ([] : List (S65)) ([] : List (S71)) 0)
def packthreadkeep_FetchStill.l1 : Nat → List Int → List (S65) → List (S71) → List (S65) → List (S71) → Int → Option (Bool)
  | 0, _, _, _, _, _, _ => none
  | k + 1, x3, x10, x14, x16, x17, x18 => if x18 < (x10.length : Int) then (if 0 ≤ (wrap64 (x18 + 1)) then (if (wrap64 (x18 + 1)) < (x14.length : Int) then (if ((rd_T71 x14 (wrap64 (x18 + 1))).f0) = 0 then (if 0 ≤ x18 then (if x16.length < 3518437208883 then (if x17.length < 2199023255552 then (packthreadkeep_FetchStill.j4 k x3 x10 x14 (x16 ++ [(⟨(rd_T65 x10 x18).f0, (rd_T65 x10 x18).f1, (rd_T65 x10 x18).f2⟩ : S65)]) (x17 ++ [(⟨(rd_T71 x14 (wrap64 (x18 + 1))).f0, (rd_T71 x14 (wrap64 (x18 + 1))).f1, (rd_T71 x14 (wrap64 (x18 + 1))).f2, (rd_T71 x14 (wrap64 (x18 + 1))).f3⟩ : S71)]) x18) else (none)) else (none)) else (none)) else (packthreadkeep_FetchStill.j4 k x3 x10 x14 x16 x17 x18)) else (none)) else (none)) else ((fetch_Play.f x16).bind fun bt165 => (if bt165.2 = 0 then (packthreadkeep_FetchStill.j5 k x16 x17 bt165.1 ((bt165.1.length : Int) != (wrap64 ((x16.length : Int) + 1)))) else (packthreadkeep_FetchStill.j5 k x16 x17 bt165.1 true)))
def packthreadkeep_FetchStill.j4 : Nat → List Int → List (S65) → List (S71) → List (S65) → List (S71) → Int → Option (Bool)
  | 0, _, _, _, _, _, _ => none
  | k + 1, x3, x10, x14, x16, x17, x18 => if x18 < (x3.length : Int) then (if 0 ≤ x18 then ((packthreadkeep_Picked.f (rd x3 x18) 99).bind fun t158 => (if x16.length < 3518437208883 then (if x17.length < 2199023255552 then (packthreadkeep_FetchStill.l1 k x3 x10 x14 (x16 ++ [(⟨wrap64 (1 + t158), 100, ([] : List Int)⟩ : S65)]) (x17 ++ [(⟨7, ([] : List (S82)), false, ([] : List Int)⟩ : S71)]) (wrap64 (x18 + 1))) else (none)) else (none))) else (none)) else (packthreadkeep_FetchStill.l1 k x3 x10 x14 x16 x17 (wrap64 (x18 + 1)))
def packthreadkeep_FetchStill.j5 : Nat → List (S65) → List (S71) → List (S71) → Bool → Option (Bool)
  | 0, _, _, _, _ => none
  | k + 1, x16, x17, x19, x148 => if x148 = true then (some false) else (packthreadkeep_FetchStill.l2 k x16 x17 x19 0)
def packthreadkeep_FetchStill.l2 : Nat → List (S65) → List (S71) → List (S71) → Int → Option (Bool)
  | 0, _, _, _, _ => none
  | k + 1, x16, x17, x19, x21 => if x21 < (x16.length : Int) then (if 0 ≤ (wrap64 (x21 + 1)) then (if (wrap64 (x21 + 1)) < (x19.length : Int) then (if 0 ≤ x21 then (if x21 < (x17.length : Int) then (if ((rd_T71 x19 (wrap64 (x21 + 1))).f0) = ((rd_T71 x17 x21).f0) then (if (((rd_T71 x19 (wrap64 (x21 + 1))).f2) != ((rd_T71 x17 x21).f2)) = true then (packthreadkeep_FetchStill.j7 k x16 x17 x19 x21 true) else ((packthreadkeep_sameBytes.f k ((rd_T71 x19 (wrap64 (x21 + 1))).f3) ((rd_T71 x17 x21).f3)).bind fun t173 => (if t173 = true then (packthreadkeep_FetchStill.j7 k x16 x17 x19 x21 ((((rd_T71 x19 (wrap64 (x21 + 1))).f1).length : Int) != (((rd_T71 x17 x21).f1).length : Int))) else (packthreadkeep_FetchStill.j7 k x16 x17 x19 x21 true)))) else (packthreadkeep_FetchStill.j7 k x16 x17 x19 x21 true)) else (none)) else (none)) else (none)) else (none)) else (some true)
def packthreadkeep_FetchStill.j7 : Nat → List (S65) → List (S71) → List (S71) → Int → Bool → Option (Bool)
  | 0, _, _, _, _, _ => none
  | k + 1, x16, x17, x19, x21, x192 => if x192 = true then (some false) else (packthreadkeep_FetchStill.l2 k x16 x17 x19 (wrap64 (x21 + 1)))
end
def packthreadkeep_FetchStill.f (k : Nat) (a0 : Int) (a1 : Int) (l2 : List Int) (l3 : List Int) : Option (Bool) := (packthreadkeep_Picked.f a1 600).bind fun t120 => ((packthreadkeep_Stream.f k a0 t120).bind fun t121 => (packthreadkeep_FetchStill.l0 k l2 l3 t121 ([] : List (S65)) 0))
theorem packthreadkeep_FetchStill.mono_l : ∀ k, (∀ y0 y1 y2 y3 y4, LeO (packthreadkeep_FetchStill.l0 k y0 y1 y2 y3 y4) (packthreadkeep_FetchStill.l0 (k + 1) y0 y1 y2 y3 y4)) ∧ (∀ y0 y1 y2 y3 y4 y5, LeO (packthreadkeep_FetchStill.j1 k y0 y1 y2 y3 y4 y5) (packthreadkeep_FetchStill.j1 (k + 1) y0 y1 y2 y3 y4 y5)) ∧ (∀ y0 y1 y2 y3, LeO (packthreadkeep_FetchStill.j2 k y0 y1 y2 y3) (packthreadkeep_FetchStill.j2 (k + 1) y0 y1 y2 y3)) ∧ (∀ y0 y1 y2 y3 y4 y5, LeO (packthreadkeep_FetchStill.l1 k y0 y1 y2 y3 y4 y5) (packthreadkeep_FetchStill.l1 (k + 1) y0 y1 y2 y3 y4 y5)) ∧ (∀ y0 y1 y2 y3 y4 y5, LeO (packthreadkeep_FetchStill.j4 k y0 y1 y2 y3 y4 y5) (packthreadkeep_FetchStill.j4 (k + 1) y0 y1 y2 y3 y4 y5)) ∧ (∀ y0 y1 y2 y3, LeO (packthreadkeep_FetchStill.j5 k y0 y1 y2 y3) (packthreadkeep_FetchStill.j5 (k + 1) y0 y1 y2 y3)) ∧ (∀ y0 y1 y2 y3, LeO (packthreadkeep_FetchStill.l2 k y0 y1 y2 y3) (packthreadkeep_FetchStill.l2 (k + 1) y0 y1 y2 y3)) ∧ (∀ y0 y1 y2 y3 y4, LeO (packthreadkeep_FetchStill.j7 k y0 y1 y2 y3 y4) (packthreadkeep_FetchStill.j7 (k + 1) y0 y1 y2 y3 y4))
  | 0 => ⟨fun _ _ _ _ _ r h => by simp [packthreadkeep_FetchStill.l0] at h, fun _ _ _ _ _ _ r h => by simp [packthreadkeep_FetchStill.j1] at h, fun _ _ _ _ r h => by simp [packthreadkeep_FetchStill.j2] at h, fun _ _ _ _ _ _ r h => by simp [packthreadkeep_FetchStill.l1] at h, fun _ _ _ _ _ _ r h => by simp [packthreadkeep_FetchStill.j4] at h, fun _ _ _ _ r h => by simp [packthreadkeep_FetchStill.j5] at h, fun _ _ _ _ r h => by simp [packthreadkeep_FetchStill.l2] at h, fun _ _ _ _ _ r h => by simp [packthreadkeep_FetchStill.j7] at h⟩
  | k + 1 => by
    obtain ⟨ih0, ih1, ih2, ih3, ih4, ih5, ih6, ih7⟩ := packthreadkeep_FetchStill.mono_l k
    refine ⟨?_, ?_, ?_, ?_, ?_, ?_, ?_, ?_⟩
    · intro y0 y1 y2 y3 y4
      unfold packthreadkeep_FetchStill.l0
      repeat' first
      | (with_reducible exact ih0 _ _ _ _ _)
      | (with_reducible exact ih1 _ _ _ _ _ _)
      | (with_reducible exact ih2 _ _ _ _)
      | (with_reducible exact ih3 _ _ _ _ _ _)
      | (with_reducible exact ih4 _ _ _ _ _ _)
      | (with_reducible exact ih5 _ _ _ _)
      | (with_reducible exact ih6 _ _ _ _)
      | (with_reducible exact ih7 _ _ _ _ _)
      | (with_reducible exact packthreadkeep_Stream.mono _ _ _)
      | (with_reducible exact packthreadkeep_sameBytes.mono _ _ _)
      | (with_reducible exact LeO.refl _)
      | (with_reducible exact LeO.none _)
      | (with_reducible refine LeO.ite ?_ ?_)
      | (with_reducible refine LeO.bind ?_ (fun _ => ?_))
      | exact ih0 _ _ _ _ _
      | exact ih1 _ _ _ _ _ _
      | exact ih2 _ _ _ _
      | exact ih3 _ _ _ _ _ _
      | exact ih4 _ _ _ _ _ _
      | exact ih5 _ _ _ _
      | exact ih6 _ _ _ _
      | exact ih7 _ _ _ _ _
      | exact packthreadkeep_Stream.mono _ _ _
      | exact packthreadkeep_sameBytes.mono _ _ _
      | exact LeO.none _
      | refine LeO.ite ?_ ?_
      | refine LeO.bind ?_ (fun _ => ?_)
    · intro y0 y1 y2 y3 y4 y5
      unfold packthreadkeep_FetchStill.j1
      repeat' first
      | (with_reducible exact ih0 _ _ _ _ _)
      | (with_reducible exact ih1 _ _ _ _ _ _)
      | (with_reducible exact ih2 _ _ _ _)
      | (with_reducible exact ih3 _ _ _ _ _ _)
      | (with_reducible exact ih4 _ _ _ _ _ _)
      | (with_reducible exact ih5 _ _ _ _)
      | (with_reducible exact ih6 _ _ _ _)
      | (with_reducible exact ih7 _ _ _ _ _)
      | (with_reducible exact packthreadkeep_Stream.mono _ _ _)
      | (with_reducible exact packthreadkeep_sameBytes.mono _ _ _)
      | (with_reducible exact LeO.refl _)
      | (with_reducible exact LeO.none _)
      | (with_reducible refine LeO.ite ?_ ?_)
      | (with_reducible refine LeO.bind ?_ (fun _ => ?_))
      | exact ih0 _ _ _ _ _
      | exact ih1 _ _ _ _ _ _
      | exact ih2 _ _ _ _
      | exact ih3 _ _ _ _ _ _
      | exact ih4 _ _ _ _ _ _
      | exact ih5 _ _ _ _
      | exact ih6 _ _ _ _
      | exact ih7 _ _ _ _ _
      | exact packthreadkeep_Stream.mono _ _ _
      | exact packthreadkeep_sameBytes.mono _ _ _
      | exact LeO.none _
      | refine LeO.ite ?_ ?_
      | refine LeO.bind ?_ (fun _ => ?_)
    · intro y0 y1 y2 y3
      unfold packthreadkeep_FetchStill.j2
      repeat' first
      | (with_reducible exact ih0 _ _ _ _ _)
      | (with_reducible exact ih1 _ _ _ _ _ _)
      | (with_reducible exact ih2 _ _ _ _)
      | (with_reducible exact ih3 _ _ _ _ _ _)
      | (with_reducible exact ih4 _ _ _ _ _ _)
      | (with_reducible exact ih5 _ _ _ _)
      | (with_reducible exact ih6 _ _ _ _)
      | (with_reducible exact ih7 _ _ _ _ _)
      | (with_reducible exact packthreadkeep_Stream.mono _ _ _)
      | (with_reducible exact packthreadkeep_sameBytes.mono _ _ _)
      | (with_reducible exact LeO.refl _)
      | (with_reducible exact LeO.none _)
      | (with_reducible refine LeO.ite ?_ ?_)
      | (with_reducible refine LeO.bind ?_ (fun _ => ?_))
      | exact ih0 _ _ _ _ _
      | exact ih1 _ _ _ _ _ _
      | exact ih2 _ _ _ _
      | exact ih3 _ _ _ _ _ _
      | exact ih4 _ _ _ _ _ _
      | exact ih5 _ _ _ _
      | exact ih6 _ _ _ _
      | exact ih7 _ _ _ _ _
      | exact packthreadkeep_Stream.mono _ _ _
      | exact packthreadkeep_sameBytes.mono _ _ _
      | exact LeO.none _
      | refine LeO.ite ?_ ?_
      | refine LeO.bind ?_ (fun _ => ?_)
    · intro y0 y1 y2 y3 y4 y5
      unfold packthreadkeep_FetchStill.l1
      repeat' first
      | (with_reducible exact ih0 _ _ _ _ _)
      | (with_reducible exact ih1 _ _ _ _ _ _)
      | (with_reducible exact ih2 _ _ _ _)
      | (with_reducible exact ih3 _ _ _ _ _ _)
      | (with_reducible exact ih4 _ _ _ _ _ _)
      | (with_reducible exact ih5 _ _ _ _)
      | (with_reducible exact ih6 _ _ _ _)
      | (with_reducible exact ih7 _ _ _ _ _)
      | (with_reducible exact packthreadkeep_Stream.mono _ _ _)
      | (with_reducible exact packthreadkeep_sameBytes.mono _ _ _)
      | (with_reducible exact LeO.refl _)
      | (with_reducible exact LeO.none _)
      | (with_reducible refine LeO.ite ?_ ?_)
      | (with_reducible refine LeO.bind ?_ (fun _ => ?_))
      | exact ih0 _ _ _ _ _
      | exact ih1 _ _ _ _ _ _
      | exact ih2 _ _ _ _
      | exact ih3 _ _ _ _ _ _
      | exact ih4 _ _ _ _ _ _
      | exact ih5 _ _ _ _
      | exact ih6 _ _ _ _
      | exact ih7 _ _ _ _ _
      | exact packthreadkeep_Stream.mono _ _ _
      | exact packthreadkeep_sameBytes.mono _ _ _
      | exact LeO.none _
      | refine LeO.ite ?_ ?_
      | refine LeO.bind ?_ (fun _ => ?_)
    · intro y0 y1 y2 y3 y4 y5
      unfold packthreadkeep_FetchStill.j4
      repeat' first
      | (with_reducible exact ih0 _ _ _ _ _)
      | (with_reducible exact ih1 _ _ _ _ _ _)
      | (with_reducible exact ih2 _ _ _ _)
      | (with_reducible exact ih3 _ _ _ _ _ _)
      | (with_reducible exact ih4 _ _ _ _ _ _)
      | (with_reducible exact ih5 _ _ _ _)
      | (with_reducible exact ih6 _ _ _ _)
      | (with_reducible exact ih7 _ _ _ _ _)
      | (with_reducible exact packthreadkeep_Stream.mono _ _ _)
      | (with_reducible exact packthreadkeep_sameBytes.mono _ _ _)
      | (with_reducible exact LeO.refl _)
      | (with_reducible exact LeO.none _)
      | (with_reducible refine LeO.ite ?_ ?_)
      | (with_reducible refine LeO.bind ?_ (fun _ => ?_))
      | exact ih0 _ _ _ _ _
      | exact ih1 _ _ _ _ _ _
      | exact ih2 _ _ _ _
      | exact ih3 _ _ _ _ _ _
      | exact ih4 _ _ _ _ _ _
      | exact ih5 _ _ _ _
      | exact ih6 _ _ _ _
      | exact ih7 _ _ _ _ _
      | exact packthreadkeep_Stream.mono _ _ _
      | exact packthreadkeep_sameBytes.mono _ _ _
      | exact LeO.none _
      | refine LeO.ite ?_ ?_
      | refine LeO.bind ?_ (fun _ => ?_)
    · intro y0 y1 y2 y3
      unfold packthreadkeep_FetchStill.j5
      repeat' first
      | (with_reducible exact ih0 _ _ _ _ _)
      | (with_reducible exact ih1 _ _ _ _ _ _)
      | (with_reducible exact ih2 _ _ _ _)
      | (with_reducible exact ih3 _ _ _ _ _ _)
      | (with_reducible exact ih4 _ _ _ _ _ _)
      | (with_reducible exact ih5 _ _ _ _)
      | (with_reducible exact ih6 _ _ _ _)
      | (with_reducible exact ih7 _ _ _ _ _)
      | (with_reducible exact packthreadkeep_Stream.mono _ _ _)
      | (with_reducible exact packthreadkeep_sameBytes.mono _ _ _)
      | (with_reducible exact LeO.refl _)
      | (with_reducible exact LeO.none _)
      | (with_reducible refine LeO.ite ?_ ?_)
      | (with_reducible refine LeO.bind ?_ (fun _ => ?_))
      | exact ih0 _ _ _ _ _
      | exact ih1 _ _ _ _ _ _
      | exact ih2 _ _ _ _
      | exact ih3 _ _ _ _ _ _
      | exact ih4 _ _ _ _ _ _
      | exact ih5 _ _ _ _
      | exact ih6 _ _ _ _
      | exact ih7 _ _ _ _ _
      | exact packthreadkeep_Stream.mono _ _ _
      | exact packthreadkeep_sameBytes.mono _ _ _
      | exact LeO.none _
      | refine LeO.ite ?_ ?_
      | refine LeO.bind ?_ (fun _ => ?_)
    · intro y0 y1 y2 y3
      unfold packthreadkeep_FetchStill.l2
      repeat' first
      | (with_reducible exact ih0 _ _ _ _ _)
      | (with_reducible exact ih1 _ _ _ _ _ _)
      | (with_reducible exact ih2 _ _ _ _)
      | (with_reducible exact ih3 _ _ _ _ _ _)
      | (with_reducible exact ih4 _ _ _ _ _ _)
      | (with_reducible exact ih5 _ _ _ _)
      | (with_reducible exact ih6 _ _ _ _)
      | (with_reducible exact ih7 _ _ _ _ _)
      | (with_reducible exact packthreadkeep_Stream.mono _ _ _)
      | (with_reducible exact packthreadkeep_sameBytes.mono _ _ _)
      | (with_reducible exact LeO.refl _)
      | (with_reducible exact LeO.none _)
      | (with_reducible refine LeO.ite ?_ ?_)
      | (with_reducible refine LeO.bind ?_ (fun _ => ?_))
      | exact ih0 _ _ _ _ _
      | exact ih1 _ _ _ _ _ _
      | exact ih2 _ _ _ _
      | exact ih3 _ _ _ _ _ _
      | exact ih4 _ _ _ _ _ _
      | exact ih5 _ _ _ _
      | exact ih6 _ _ _ _
      | exact ih7 _ _ _ _ _
      | exact packthreadkeep_Stream.mono _ _ _
      | exact packthreadkeep_sameBytes.mono _ _ _
      | exact LeO.none _
      | refine LeO.ite ?_ ?_
      | refine LeO.bind ?_ (fun _ => ?_)
    · intro y0 y1 y2 y3 y4
      unfold packthreadkeep_FetchStill.j7
      repeat' first
      | (with_reducible exact ih0 _ _ _ _ _)
      | (with_reducible exact ih1 _ _ _ _ _ _)
      | (with_reducible exact ih2 _ _ _ _)
      | (with_reducible exact ih3 _ _ _ _ _ _)
      | (with_reducible exact ih4 _ _ _ _ _ _)
      | (with_reducible exact ih5 _ _ _ _)
      | (with_reducible exact ih6 _ _ _ _)
      | (with_reducible exact ih7 _ _ _ _ _)
      | (with_reducible exact packthreadkeep_Stream.mono _ _ _)
      | (with_reducible exact packthreadkeep_sameBytes.mono _ _ _)
      | (with_reducible exact LeO.refl _)
      | (with_reducible exact LeO.none _)
      | (with_reducible refine LeO.ite ?_ ?_)
      | (with_reducible refine LeO.bind ?_ (fun _ => ?_))
      | exact ih0 _ _ _ _ _
      | exact ih1 _ _ _ _ _ _
      | exact ih2 _ _ _ _
      | exact ih3 _ _ _ _ _ _
      | exact ih4 _ _ _ _ _ _
      | exact ih5 _ _ _ _
      | exact ih6 _ _ _ _
      | exact ih7 _ _ _ _ _
      | exact packthreadkeep_Stream.mono _ _ _
      | exact packthreadkeep_sameBytes.mono _ _ _
      | exact LeO.none _
      | refine LeO.ite ?_ ?_
      | refine LeO.bind ?_ (fun _ => ?_)
theorem packthreadkeep_FetchStill.mono : ∀ a0 a1 a2 a3 k, LeO (packthreadkeep_FetchStill.f k a0 a1 a2 a3) (packthreadkeep_FetchStill.f (k + 1) a0 a1 a2 a3) := by
  intro a0 a1 a2 a3 k
  obtain ⟨ih0, ih1, ih2, ih3, ih4, ih5, ih6, ih7⟩ := packthreadkeep_FetchStill.mono_l k
  unfold packthreadkeep_FetchStill.f
  repeat' first
      | (with_reducible exact ih0 _ _ _ _ _)
      | (with_reducible exact ih1 _ _ _ _ _ _)
      | (with_reducible exact ih2 _ _ _ _)
      | (with_reducible exact ih3 _ _ _ _ _ _)
      | (with_reducible exact ih4 _ _ _ _ _ _)
      | (with_reducible exact ih5 _ _ _ _)
      | (with_reducible exact ih6 _ _ _ _)
      | (with_reducible exact ih7 _ _ _ _ _)
      | (with_reducible exact packthreadkeep_Stream.mono _ _ _)
      | (with_reducible exact packthreadkeep_sameBytes.mono _ _ _)
      | (with_reducible exact LeO.refl _)
      | (with_reducible exact LeO.none _)
      | (with_reducible refine LeO.ite ?_ ?_)
      | (with_reducible refine LeO.bind ?_ (fun _ => ?_))
      | exact ih0 _ _ _ _ _
      | exact ih1 _ _ _ _ _ _
      | exact ih2 _ _ _ _
      | exact ih3 _ _ _ _ _ _
      | exact ih4 _ _ _ _ _ _
      | exact ih5 _ _ _ _
      | exact ih6 _ _ _ _
      | exact ih7 _ _ _ _ _
      | exact packthreadkeep_Stream.mono _ _ _
      | exact packthreadkeep_sameBytes.mono _ _ _
      | exact LeO.none _
      | refine LeO.ite ?_ ?_
      | refine LeO.bind ?_ (fun _ => ?_)
set_option maxHeartbeats 8000000 in
set_option maxRecDepth 100000 in
theorem packthreadkeep_FetchStill.calls (k : Nat) (a0 : Int) (a1 : Int) (A2 : Option Addr) (c2 : Nat) (l2 : List Int) (A3 : Option Addr) (c3 : Nat) (l3 : List Int) (r : Bool) (w : World) (hr2 : Kd.C (Kd.int .i64) w A2 l2.length l2) (hc2 : l2.length ≤ c2) (hr3 : Kd.C (Kd.int .i64) w A3 l3.length l3) (hc3 : l3.length ≤ c3) (h : packthreadkeep_FetchStill.f k a0 a1 l2 l3 = some r) :
    Calls Try.prog 13 #[.int .i64 a0, .int .i64 a1, .slice A2 l2.length c2, .slice A3 l3.length c3] w fun e w' => e = .returned (.bool r) ∧ Below w.heap.size w w' := by
  have hu65 := Try.underlying65
  have hu71 := Try.underlying71
  have HR2 := Aside0.mk hr2
  have HC2 := Aside0.mk hc2
  clear hr2 hc2
  have HR3 := Aside0.mk hr3
  have HC3 := Aside0.mk hc3
  clear hr3 hc3
  have HB := Aside0.mk (Below.refl w.heap.size w)
  have H : ((packthreadkeep_Picked.f a1 600).bind fun t120 => ((packthreadkeep_Stream.f k a0 t120).bind fun t121 => (packthreadkeep_FetchStill.l0 k l2 l3 t121 ([] : List (S65)) 0))) = some r := h
  clear h
  replace H := Option.bind_eq_some_iff.mp H
  obtain ⟨t120, A50, H⟩ := H
  replace H : ((packthreadkeep_Stream.f k a0 t120).bind fun t121 => (packthreadkeep_FetchStill.l0 k l2 l3 t121 ([] : List (S65)) 0)) = some r := H
  have A5 := Aside0.mk A50
  clear A50
  replace H := Option.bind_eq_some_iff.mp H
  obtain ⟨t121, A60, H⟩ := H
  replace H : (packthreadkeep_FetchStill.l0 k l2 l3 t121 ([] : List (S65)) 0) = some r := H
  have A6 := Aside0.mk A60
  clear A60
  have H' := Aside0.mk H
  clear H
  go_enter Try.func13, Try.ntmps13
  go_wp2_with (first | ((with_reducible refine gate_callee (f := 14) rfl ?_); refine goesL_ (some 26) rfl rfl Try.func14 (by kernel_rfl) rfl #[.int .i64 a1, .int .i64 600] rfl (by (try simp only [List.map_toArray, List.map_cons, List.map_nil]); first | done | rfl | (simp only [List.length_drop, List.length_take]; rfl)) ?_; (with_reducible refine (packthreadkeep_Picked.calls a1 600 t120 _ A5.out).mono ?_); rintro e w' ⟨rfl, ⟨nd, rfl⟩⟩; refine ⟨_, rfl, ?_⟩) | ((with_reducible refine gate_callee (f := 26) rfl ?_); refine goesL_ (some 27) rfl rfl Try.func26 (by kernel_rfl) rfl #[.int .i64 a0, .int .i64 t120] rfl (by (try simp only [List.map_toArray, List.map_cons, List.map_nil]); first | done | rfl | (simp only [List.length_drop, List.length_take]; rfl)) ?_; (with_reducible refine (packthreadkeep_Stream.calls k a0 t120 t121 _ A6.out).mono ?_); rintro e w7 ⟨v122, rfl, ho0, hb⟩; refine ⟨_, rfl, ?_⟩; have n0_ := Aside0.mk (Kd.R_lower ho0 (below_size (by repeat (first | (with_reducible first | exact HB.out | apply below_alloc | apply pw_below_drewN | apply below_drew1) | exact HB.out)))); have n1_ := Aside0.mk (below_step (by repeat (first | (with_reducible first | exact HB.out | apply below_alloc | apply pw_below_drewN | apply below_drew1) | exact HB.out)) hb); clear HB; have HO123 := n0_; have HB := n1_; clear n0_ n1_; (try clear hb); (try clear hb2); (try clear hk); (try clear hi); (try clear ho0)))
  go_loopg [10, 11] k (fun kq v10 v11 w' => ∃ (x10_1 : List (S65)) (x11_1 : Int), v11 = .int .i64 x11_1 ∧ Aside0 (packthreadkeep_FetchStill.l0 kq l2 l3 t121 x10_1 x11_1 = some r) ∧ Aside0 (kq ≤ k) ∧ Aside0 (Kd.R (Kd.int .u8) 5 w' w.heap.size (fun _ => True) v122 t121) ∧ Aside0 (Kd.N k65 65 w' w.heap.size (fun k_ => some k_ ≠ (v122 : Value).ownBlock) v10 x10_1) ∧ Aside0 (Below w.heap.size w w'))
  case atStart => exact ⟨(([] : List (S65))), (0), (by first | rfl | (simp; done) | (simp [*]; done)), H', ⟨Nat.le_refl _⟩, ⟨by (with_reducible repeat (first | apply Kd.R_alloc | apply Kd.R_drewN | apply Kd.R_drew)); exact HO123.out⟩, ⟨by first | exact Kd.S_nil _ _ _ _ _ | exact Kd.N_nil _ _ _ _ _ | exact Kd.V_nil _ _ _ _ _ | exact Kd.Q_nil _ _ _ _ _ | exact Kd.R_nil _ _ _ _ _⟩, ⟨by repeat (first | (with_reducible first | exact HB.out | apply below_alloc | apply pw_below_drewN | apply below_drew1) | exact HB.out)⟩⟩
  case round =>
    clear H'
    try clear c1
    try clear c2
    try clear p2
    try clear c3
    obtain ⟨x10_1, x11_1, rfl, HA, HK1, HO_9, HO_10, HB⟩ := hrel
    cases gk with
    | zero => exact absurd HA.out (by simp [packthreadkeep_FetchStill.l0])
    | succ k1 =>
      have H := HA.out
      clear HA
      simp only [packthreadkeep_FetchStill.l0] at H
      have HC8 := Aside0.mk H
      clear H
      go_upto_region 4 with (fail)
      go_cut [35] (fun v35 wc => ∃ (kq : Nat) (x35_7 : Bool), v35 = .bool x35_7 ∧ Aside0 (packthreadkeep_FetchStill.j1 kq l2 l3 t121 x10_1 x11_1 x35_7 = some r) ∧ Aside0 (kq ≤ k1) ∧ Aside0 (Kd.R (Kd.int .u8) 5 wc w.heap.size (fun _ => True) v122 t121) ∧ Aside0 (Kd.N k65 65 wc w.heap.size (fun k_ => some k_ ≠ (v122 : Value).ownBlock) u10 x10_1) ∧ Aside0 (Below w.heap.size w wc))
      case first =>
        have H := HC8.out
        clear HC8
        by_cases c9 : x11_1 < (l2.length : Int)
        · rw [if_pos c9] at H
          have c9b0 : decide (x11_1 < (l2.length : Int)) = true := decide_eq_true c9
          clear c9
          (first | rw [c9b0] | (simp only [i64_w, i32_w]; rw [c9b0]) | rw [c9b1] | skip)
          have H' := Aside0.mk H
          clear H
          go_wp2
          go_meet
          case rel => exact ⟨_, (decide (x11_1 < 60)), (by first | rfl | (simp; done) | (simp [*]; done)), H', ⟨by have := HK1.out; first | omega | exact Nat.le_refl _⟩, ⟨by (with_reducible repeat (first | apply Kd.R_alloc | apply Kd.R_drewN | apply Kd.R_drew)); exact HO_9.out⟩, ⟨by (with_reducible repeat (first | apply Kd.N_alloc | apply Kd.N_drewN | apply Kd.N_drew)); exact HO_10.out⟩, ⟨by repeat (first | (with_reducible first | exact HB.out | apply below_alloc | apply pw_below_drewN | apply below_drew1) | exact HB.out)⟩⟩
        · rw [if_neg c9] at H
          have c9b0 : decide (x11_1 < (l2.length : Int)) = false := decide_eq_false c9
          clear c9
          (first | rw [c9b0] | (simp only [i64_w, i32_w]; rw [c9b0]) | rw [c9b1] | skip)
          have H' := Aside0.mk H
          clear H
          go_wp2
          go_meet
          case rel => exact ⟨_, (false), (by first | rfl | (simp; done) | (simp [*]; done)), H', ⟨by have := HK1.out; first | omega | exact Nat.le_refl _⟩, ⟨by (with_reducible repeat (first | apply Kd.R_alloc | apply Kd.R_drewN | apply Kd.R_drew)); exact HO_9.out⟩, ⟨by (with_reducible repeat (first | apply Kd.N_alloc | apply Kd.N_drewN | apply Kd.N_drew)); exact HO_10.out⟩, ⟨by repeat (first | (with_reducible first | exact HB.out | apply below_alloc | apply pw_below_drewN | apply below_drew1) | exact HB.out)⟩⟩
      case rest =>
        clear HC8
        try clear c1
        try clear c2
        try clear p2
        try clear c3
        try clear c9
        try clear c9b0
        try clear c9b1
        try clear p2
        obtain ⟨kq, x35_7, rfl, HA, HJ7, HO_9, HO_10, HB⟩ := hcut
        cases kq with
        | zero => exact absurd HA.out (by simp [packthreadkeep_FetchStill.j1])
        | succ kj7 =>
          have H := HA.out
          clear HA
          simp only [packthreadkeep_FetchStill.j1] at H
          by_cases c10 : x35_7 = true
          · subst c10
            have H1 : (if 0 ≤ x11_1 then (if x11_1 < (l2.length : Int) then ((packthreadkeep_Picked.f (rd l2 x11_1) 9).bind fun t125 => (if (wrap64 (t125 * 100)) < (t121.length : Int) then (if 0 ≤ (wrap64 (t125 * 100)) then (if (wrap64 (t125 * 100)) ≤ (mn (wrap64 ((wrap64 (t125 * 100)) + 100)) (t121.length : Int)) then (if (mn (wrap64 ((wrap64 (t125 * 100)) + 100)) (t121.length : Int)) ≤ (t121.length : Int) then ((some ((t121.take ((mn (wrap64 ((wrap64 (t125 * 100)) + 100)) (t121.length : Int)) : Int).toNat).drop ((wrap64 (t125 * 100)) : Int).toNat : List Int)).bind fun y126 => (if ([] : List Int).length + y126.length < 140737488355328 then (if x10_1.length < 3518437208883 then (packthreadkeep_FetchStill.l0 kj7 l2 l3 t121 (x10_1 ++ [(⟨wrap64 (t125 * 100), 100, (([] : List Int) ++ y126)⟩ : S65)]) (wrap64 (x11_1 + 1))) else (none)) else (none))) else (none)) else (none)) else (none)) else (if x10_1.length < 3518437208883 then (packthreadkeep_FetchStill.l0 kj7 l2 l3 t121 (x10_1 ++ [(⟨wrap64 (t125 * 100), 100, ([] : List Int)⟩ : S65)]) (wrap64 (x11_1 + 1))) else (none)))) else (none)) else (none)) = some r := by rw [if_pos rfl] at H; exact H
            clear H
            have H := H1
            clear H1
            by_cases c11 : 0 ≤ x11_1
            · rw [if_pos c11] at H
              have c11b0 : decide (0 ≤ x11_1) = true := decide_eq_true c11
              clear c11
              by_cases c12 : x11_1 < (l2.length : Int)
              · rw [if_pos c12] at H
                have c12b0 : decide (x11_1 < (l2.length : Int)) = true := decide_eq_true c12
                clear c12
                replace H := Option.bind_eq_some_iff.mp H
                obtain ⟨t125, A130, H⟩ := H
                replace H : (if (wrap64 (t125 * 100)) < (t121.length : Int) then (if 0 ≤ (wrap64 (t125 * 100)) then (if (wrap64 (t125 * 100)) ≤ (mn (wrap64 ((wrap64 (t125 * 100)) + 100)) (t121.length : Int)) then (if (mn (wrap64 ((wrap64 (t125 * 100)) + 100)) (t121.length : Int)) ≤ (t121.length : Int) then ((some ((t121.take ((mn (wrap64 ((wrap64 (t125 * 100)) + 100)) (t121.length : Int)) : Int).toNat).drop ((wrap64 (t125 * 100)) : Int).toNat : List Int)).bind fun y126 => (if ([] : List Int).length + y126.length < 140737488355328 then (if x10_1.length < 3518437208883 then (packthreadkeep_FetchStill.l0 kj7 l2 l3 t121 (x10_1 ++ [(⟨wrap64 (t125 * 100), 100, (([] : List Int) ++ y126)⟩ : S65)]) (wrap64 (x11_1 + 1))) else (none)) else (none))) else (none)) else (none)) else (none)) else (if x10_1.length < 3518437208883 then (packthreadkeep_FetchStill.l0 kj7 l2 l3 t121 (x10_1 ++ [(⟨wrap64 (t125 * 100), 100, ([] : List Int)⟩ : S65)]) (wrap64 (x11_1 + 1))) else (none))) = some r := H
                have A13 := Aside0.mk A130
                clear A130
                by_cases c14 : (wrap64 (t125 * 100)) < (t121.length : Int)
                · rw [if_pos c14] at H
                  have c14b0 : decide ((wrap64 (t125 * 100)) < (t121.length : Int)) = true := decide_eq_true c14
                  clear c14
                  obtain ⟨ji15, hji15⟩ : ∃ j_ : Int, (mn (wrap64 ((wrap64 (t125 * 100)) + 100)) (t121.length : Int)) = j_ := ⟨_, rfl⟩
                  replace H : (if 0 ≤ (wrap64 (t125 * 100)) then (if (wrap64 (t125 * 100)) ≤ (ji15) then (if (ji15) ≤ (t121.length : Int) then ((some ((t121.take ((ji15) : Int).toNat).drop ((wrap64 (t125 * 100)) : Int).toNat : List Int)).bind fun y126 => (if ([] : List Int).length + y126.length < 140737488355328 then (if x10_1.length < 3518437208883 then (packthreadkeep_FetchStill.l0 kj7 l2 l3 t121 (x10_1 ++ [(⟨wrap64 (t125 * 100), 100, (([] : List Int) ++ y126)⟩ : S65)]) (wrap64 (x11_1 + 1))) else (none)) else (none))) else (none)) else (none)) else (none)) = some r := by first | (rw [hji15] at H; exact H) | (simp only [hji15] at H ⊢; exact H)
                  (try rw [hji15] at A13)
                  have hji15_ : (if (t121.length : Int) < (wrap64 ((wrap64 (t125 * 100)) + 100)) then (t121.length : Int) else (wrap64 ((wrap64 (t125 * 100)) + 100))) = ji15 := hji15
                  obtain ⟨ji16, hji16⟩ : ∃ j_ : Int, (wrap64 (t125 * 100)) = j_ := ⟨_, rfl⟩
                  replace H : (if 0 ≤ (ji16) then (if (ji16) ≤ (ji15) then (if (ji15) ≤ (t121.length : Int) then ((some ((t121.take ((ji15) : Int).toNat).drop ((ji16) : Int).toNat : List Int)).bind fun y126 => (if ([] : List Int).length + y126.length < 140737488355328 then (if x10_1.length < 3518437208883 then (packthreadkeep_FetchStill.l0 kj7 l2 l3 t121 (x10_1 ++ [(⟨ji16, 100, (([] : List Int) ++ y126)⟩ : S65)]) (wrap64 (x11_1 + 1))) else (none)) else (none))) else (none)) else (none)) else (none)) = some r := by first | (rw [hji16] at H; exact H) | (simp only [hji16] at H ⊢; exact H)
                  (try rw [hji16] at c14b0)
                  (try rw [hji16] at hji15_)
                  (try rw [hji16] at A13)
                  have hji16w : (IntKind.i64.wrap (t125 * 100)) = ji16 := (i64_w _).trans hji16
                  by_cases c17 : 0 ≤ (ji16)
                  · rw [if_pos c17] at H
                    have c17b0 := eq_true c17
                    have c17b1 : decide (0 ≤ (ji16)) = true := decide_eq_true c17
                    clear c17
                    by_cases c18 : (ji16) ≤ (ji15)
                    · rw [if_pos c18] at H
                      have c18b0 := eq_true c18
                      have c18b1 : decide ((ji16) ≤ (ji15)) = true := decide_eq_true c18
                      clear c18
                      by_cases c19 : (ji15) ≤ (t121.length : Int)
                      · rw [if_pos c19] at H
                        have c19b0 := eq_true c19
                        have c19b1 : decide ((ji15) ≤ (t121.length : Int)) = true := decide_eq_true c19
                        clear c19
                        obtain ⟨y126, hy126⟩ : ∃ y_ : List Int, y_ = ((t121.take ((ji15) : Int).toNat).drop ((ji16) : Int).toNat) := ⟨_, rfl⟩
                        replace H : (if ([] : List Int).length + y126.length < 140737488355328 then (if x10_1.length < 3518437208883 then (packthreadkeep_FetchStill.l0 kj7 l2 l3 t121 (x10_1 ++ [(⟨ji16, 100, (([] : List Int) ++ y126)⟩ : S65)]) (wrap64 (x11_1 + 1))) else (none)) else (none)) = some r := by first | (rw [hy126]; with_reducible exact H) | (have H2_ := (Option.bind_some _ _).symm.trans H; rw [hy126]; with_reducible exact H2_) | (have H2_ := (Option.bind_some _ _).symm.trans H; with_reducible exact H2_) | with_reducible exact H | (rw [hy126]; exact H) | exact H
                        have Ny126 := Aside0.mk hy126
                        clear hy126
                        by_cases c20 : ([] : List Int).length + y126.length < 140737488355328
                        · rw [if_pos c20] at H
                          have LMc20 := Aside0.mk c20
                          clear c20
                          obtain ⟨y131, hy131⟩ : ∃ y_ : List Int, y_ = (([] : List Int) ++ y126) := ⟨_, rfl⟩
                          replace H : (if x10_1.length < 3518437208883 then (packthreadkeep_FetchStill.l0 kj7 l2 l3 t121 (x10_1 ++ [(⟨ji16, 100, y131⟩ : S65)]) (wrap64 (x11_1 + 1))) else (none)) = some r := by first | (rw [hy131]; with_reducible exact H) | (have H2_ := (Option.bind_some _ _).symm.trans H; rw [hy131]; with_reducible exact H2_) | (have H2_ := (Option.bind_some _ _).symm.trans H; with_reducible exact H2_) | with_reducible exact H | (rw [hy131]; exact H) | exact H
                          have Ny131 := Aside0.mk hy131
                          clear hy131
                          by_cases c21 : x10_1.length < 3518437208883
                          · rw [if_pos c21] at H
                            have LMc21 := Aside0.mk c21
                            clear c21
                            obtain ⟨y134, hy134⟩ : ∃ y_ : List (S65), y_ = (x10_1 ++ [(⟨ji16, 100, y131⟩ : S65)]) := ⟨_, rfl⟩
                            replace H : (packthreadkeep_FetchStill.l0 kj7 l2 l3 t121 y134 (wrap64 (x11_1 + 1))) = some r := by first | (rw [hy134]; with_reducible exact H) | (have H2_ := (Option.bind_some _ _).symm.trans H; rw [hy134]; with_reducible exact H2_) | (have H2_ := (Option.bind_some _ _).symm.trans H; with_reducible exact H2_) | with_reducible exact H | (rw [hy134]; exact H) | exact H
                            have Ny134 := Aside0.mk hy134
                            clear hy134
                            have H' := Aside0.mk H
                            clear H
                            have p124 : 0 ≤ (x11_1 : Int) := of_decide_eq_true (by first | (with_reducible assumption) | assumption)
                            have q124 : x11_1 < (l2.length : Int) := of_decide_eq_true (by first | (with_reducible assumption) | assumption)
                            obtain ⟨ad124, e124, hx124_0⟩ := Kd.at_int HR2.out x11_1 p124 q124
                            cases e124
                            replace hx124_0 := (HB.out.cell (World.block_lt_of_cell? w _ hx124_0)).trans hx124_0
                            replace p124 := eq_true p124
                            replace q124 := eq_true q124
                            go_wp2_with (first | ((with_reducible refine gate_callee (f := 14) rfl ?_); refine goesL_ (some 42) rfl rfl Try.func14 (by kernel_rfl) rfl #[.int .i64 (rd l2 x11_1), .int .i64 9] rfl (by (try simp only [List.map_toArray, List.map_cons, List.map_nil]); first | done | rfl | (simp only [List.length_drop, List.length_take]; rfl)) ?_; (with_reducible refine (packthreadkeep_Picked.calls (rd l2 x11_1) 9 t125 _ A13.out).mono ?_); rintro e w' ⟨rfl, ⟨nd, rfl⟩⟩; refine ⟨_, rfl, ?_⟩; obtain ⟨Ao22, co22, eo22⟩ := Kd.R_slice HO_9.out; subst eo22; have q23 : ((ji15) : Int) ≤ ((t121.length : Int) : Int) := of_decide_eq_true (by first | (with_reducible assumption) | assumption); obtain ⟨i023, hi023, _, hsz23, _⟩ := info_parts info5; have hroom23 : t121.length ≤ co22 := (Kd.R_reads' HO_9.out).2.1; have hC23 : Kd.F (Kd.int .u8) _ _ Ao22 t121.length t121 := (Kd.V_at (base := w.heap.size) (Kd.R_V (Kd.R_apart' (HO_9.out) (Kd.N_typed HO_10.out) (by decide)))).2.2; have ql23 : ((ji16) : Int) ≤ ((ji15) : Int) := of_decide_eq_true (by first | (with_reducible assumption) | assumption); have q023 : (0 : Int) ≤ ((ji16) : Int) := of_decide_eq_true (by first | (with_reducible assumption) | assumption); have hcut23 := cut_mid (P := Try.prog) 57 5 .i64 .i64 Try.underlying57 hi023 1 hsz23 Ao22 t121.length co22 (ji16) (ji15) q023 ql23 q23 hroom23; have hr23 := Kd.F_mid (lo := ((ji16) : Int).toNat) (hi := ((ji15) : Int).toNat) (c := co22) hC23 (by omega) (by omega) hroom23; obtain ⟨A23, hA23⟩ : ∃ A1, A1 = (if co22 = ((ji16) : Int).toNat then Ao22 else (Ao22 : Option Addr).map (·.add (((ji16) : Int).toNat * 1))) := ⟨_, rfl⟩; obtain ⟨c23, hc23⟩ : ∃ c1, c1 = co22 - ((ji16) : Int).toNat := ⟨_, rfl⟩; have hy23 : y126.length = ((ji15) : Int).toNat - ((ji16) : Int).toNat := (by rw [Ny126.out, List.length_drop, List.length_take] <;> omega); rw [show ((t121).take ((ji15) : Int).toNat).drop ((ji16) : Int).toNat = y126 from Ny126.out.symm] at hr23; replace hr23 : Kd.F (Kd.int .u8) _ _ A23 y126.length y126 := (by rw [hA23]; exact hr23); rw [← hy23, ← hA23, ← hc23] at hcut23; have HO130 := Aside0.mk (show Kd.V (Kd.int .u8) 5 _ w.heap.size _ (.slice A23 y126.length c23) y126 from Kd.V_mk (by rw [hy23, hc23]; exact Nat.sub_le_sub_right (Nat.le_trans (by omega) hroom23) _) hr23); have HC130 := Aside0.mk (show y126.length ≤ c23 from by rw [hy23, hc23]; exact Nat.sub_le_sub_right (Nat.le_trans (by omega) hroom23) _); clear hr23 hC23 hroom23 hi023 hsz23 hc23; have KY23 := Aside0.mk hy23; have KA23 := Aside0.mk hA23; clear hy23 hA23; replace q23 := eq_true q23) | ((with_reducible refine gate_builtin (b := .append) (xs := #[.tmp 48, .tmp 56]) rfl ?_); (try (refine gate_guard (by rfl) ?_; dsimp only)); at_builtin; refine Kd.R_append_rows (Kd.int .u8) (w0 := w) w.heap.size rfl (.tmp 48) (.tmp 56) 57 5 (.int .u8 0) 1 rfl Try.underlying57 info5 rfl (by decide) (by omega) (.slice none 0 0) ([] : List Int) y126 _ _ _ (fun k_ => some k_ ≠ (.slice Ao22 t121.length co22 : Value).ownBlock) (fun _ => False) rfl rfl ?aO ?aR (fun _ _ h => h) (fun _ h => h.elim) ?aF ?aB ?aS ?aL ?_; (case aR => repeat (first | exact (Kd.V_reads' HO130.out).2.2 | (with_reducible refine Kd.C_alloc ?_ _) | (with_reducible refine Kd.C_drewN ?_ _) | (with_reducible refine Kd.C_drew ?_))); (case aB => exact (by repeat (first | (with_reducible first | exact HB.out | apply below_alloc | apply pw_below_drewN | apply below_drew1) | exact HB.out))); (case aF => exact (fun k_ hk => Kd.fresh' (Kd.R_lt (by (with_reducible repeat (first | apply Kd.R_alloc | apply Kd.R_drewN | apply Kd.R_drew)); exact HO_9.out)) k_ hk)); (case aO => exact ((Kd.R_nil _ _ _ _ (fun k_ => some k_ ≠ (.slice Ao22 t121.length co22 : Value).ownBlock)))); (case aS => exact (below_size (by repeat (first | (with_reducible first | exact HB.out | apply below_alloc | apply pw_below_drewN | apply below_drew1) | exact HB.out)))); (case aL => have := LMc20.out; omega); intro v132 w24 ho hb hg hat; rw [← Ny131.out] at ho; have n0_ := Aside0.mk (Kd.R_after (Kd.R_apart_nil (by (with_reducible repeat (first | apply Kd.R_alloc | apply Kd.R_drewN | apply Kd.R_drew)); exact HO_9.out)) hg hat); have n1_ := Aside0.mk (Kd.N_afterv (Kd.N_apart_nil (by (with_reducible repeat (first | apply Kd.N_alloc | apply Kd.N_drewN | apply Kd.N_drew)); exact HO_10.out)) hg hat); have n2_ := Aside0.mk (Kd.V_afterv (Kd.V_apart_nil (by (with_reducible repeat (first | apply Kd.V_alloc | apply Kd.V_drewN | apply Kd.V_drew)); exact HO130.out)) hg hat); have n3_ := Aside0.mk (hb); have n4_ := Aside0.mk (ho); clear HO_9; clear HO_10; clear HO130; clear HB; have HO_9 := n0_; have HO_10 := n1_; have HO130 := n2_; have HB := n3_; have HO133 := n4_; clear n0_ n1_ n2_ n3_ n4_; clear ho hb hg hat; obtain ⟨Ao25, co25, eo25⟩ := Kd.R_slice HO133.out; subst eo25) | ((with_reducible refine gate_builtin (b := .append) (xs := #[.tmp 58, .tmp 62]) rfl ?_); (try (refine gate_guard (by rfl) ?_; dsimp only)); at_builtin; refine Kd.N_append k65 (w0 := w) w.heap.size rfl (.tmp 58) (.tmp 62) 63 65 (.agg #[(.int .i64 0), (.int .i64 0), (.slice none 0 0)]) 40 rfl Try.underlying63 info65 rfl (by decide) (by omega) u10 x10_1 (⟨ji16, 100, y131⟩ : S65) [.int .i64 ji16, .int .i64 100, .slice Ao25 y131.length co25] (fun k_ => some k_ ≠ (.slice Ao22 t121.length co22 : Value).ownBlock) (fun k_ => ((fun k_ => some k_ ≠ (.slice Ao22 t121.length co22 : Value).ownBlock)) k_ ∧ some k_ ≠ (u10 : Value).ownBlock) rfl rfl ?aP (fun _ hk => hk) ?aF ?aO ?aB ?aS ?aL ?_; (case aP => exact (k65_mkF _ _ (⟨ji16, 100, y131⟩ : S65) (Kd.R_reads' (Kd.R_mono (ok' := (fun k_ => ((fun k_ => some k_ ≠ (.slice Ao22 t121.length co22 : Value).ownBlock)) k_ ∧ some k_ ≠ (u10 : Value).ownBlock)) (Kd.R_apart' (HO133.out) (Kd.N_typed HO_10.out) (by decide)) (fun k_ hk => ⟨hk.1, hk.2⟩))).2.1 (Kd.R_F (Kd.R_mono (ok' := (fun k_ => ((fun k_ => some k_ ≠ (.slice Ao22 t121.length co22 : Value).ownBlock)) k_ ∧ some k_ ≠ (u10 : Value).ownBlock)) (Kd.R_apart' (HO133.out) (Kd.N_typed HO_10.out) (by decide)) (fun k_ hk => ⟨hk.1, hk.2⟩))))); (case aB => exact (by repeat (first | (with_reducible first | exact HB.out | apply below_alloc | apply pw_below_drewN | apply below_drew1) | exact HB.out))); (case aF => exact (fun k_ hk => Kd.fresh' (Kd.R_lt (by (with_reducible repeat (first | apply Kd.R_alloc | apply Kd.R_drewN | apply Kd.R_drew)); exact HO_9.out)) k_ hk)); (case aO => exact (by (with_reducible repeat (first | apply Kd.N_alloc | apply Kd.N_drewN | apply Kd.N_drew)); exact Kd.N_mono HO_10.out (fun _ hk => by first | exact hk.1 | (and_intros <;> first | exact hk | exact hk.1 | exact hk.2 | exact hk.1.1 | exact hk.1.2 | exact hk.2.1 | exact hk.2.2 | exact hk.1.1.1 | exact hk.1.1.2 | exact hk.2.2.1 | exact hk.2.2.2)))); (case aS => exact (below_size (by repeat (first | (with_reducible first | exact HB.out | apply below_alloc | apply pw_below_drewN | apply below_drew1) | exact HB.out)))); (case aL => have := LMc21.out; omega); intro v135 w26 ho hb hg hat; rw [← Ny134.out] at ho; have n0_ := Aside0.mk (Kd.R_over' (by (with_reducible repeat (first | apply Kd.R_alloc | apply Kd.R_drewN | apply Kd.R_drew)); exact HO_9.out) (Kd.N_typed (by (with_reducible repeat (first | apply Kd.N_alloc | apply Kd.N_drewN | apply Kd.N_drew)); exact HO_10.out)) (by decide) hg); have n1_ := Aside0.mk (Kd.V_afterv (ok := (fun k_ => some k_ ≠ (.slice Ao25 y131.length co25 : Value).ownBlock)) (by (with_reducible repeat (first | apply Kd.V_alloc | apply Kd.V_drewN | apply Kd.V_drew)); exact Kd.V_mono HO130.out (fun _ hk => by first | exact ⟨hk.2, hk.1.2⟩ | (and_intros <;> first | exact hk | exact hk.1 | exact hk.2 | exact hk.1.1 | exact hk.1.2 | exact hk.2.1 | exact hk.2.2 | exact hk.1.1.1 | exact hk.1.1.2 | exact hk.2.2.1 | exact hk.2.2.2))) hg hat); have n2_ := Aside0.mk (hb); have n3_ := Aside0.mk (ho); clear HO_9; clear HO130; clear HB; clear HO_10; clear HO133; have HO_9 := n0_; have HO130 := n1_; have HB := n2_; have HO136 := n3_; clear n0_ n1_ n2_ n3_; clear ho hb hg hat))
                            go_roundg kj7
                            case measure => have := HK1.out; have := HJ7.out; omega
                            case rel => exact ⟨(y134), (wrap64 (x11_1 + 1)), (by first | rfl | (simp; done) | (simp [*]; done)), H', ⟨by have := HK1.out; have := HJ7.out; omega⟩, ⟨by (with_reducible repeat (first | apply Kd.R_alloc | apply Kd.R_drewN | apply Kd.R_drew)); exact Kd.R_mono HO_9.out (fun _ hk => trivial)⟩, ⟨by (with_reducible repeat (first | apply Kd.N_alloc | apply Kd.N_drewN | apply Kd.N_drew)); exact HO136.out⟩, ⟨by repeat (first | (with_reducible first | exact HB.out | apply below_alloc | apply pw_below_drewN | apply below_drew1) | exact HB.out)⟩⟩
                          · rw [if_neg c21] at H
                            exact absurd H (by simp)
                        · rw [if_neg c20] at H
                          exact absurd H (by simp)
                      · rw [if_neg c19] at H
                        exact absurd H (by simp)
                    · rw [if_neg c18] at H
                      exact absurd H (by simp)
                  · rw [if_neg c17] at H
                    exact absurd H (by simp)
                · rw [if_neg c14] at H
                  have c14b0 : decide ((wrap64 (t125 * 100)) < (t121.length : Int)) = false := decide_eq_false c14
                  clear c14
                  by_cases c27 : x10_1.length < 3518437208883
                  · rw [if_pos c27] at H
                    have LMc27 := Aside0.mk c27
                    clear c27
                    obtain ⟨y137, hy137⟩ : ∃ y_ : List (S65), y_ = (x10_1 ++ [(⟨wrap64 (t125 * 100), 100, ([] : List Int)⟩ : S65)]) := ⟨_, rfl⟩
                    replace H : (packthreadkeep_FetchStill.l0 kj7 l2 l3 t121 y137 (wrap64 (x11_1 + 1))) = some r := by first | (rw [hy137]; with_reducible exact H) | (have H2_ := (Option.bind_some _ _).symm.trans H; rw [hy137]; with_reducible exact H2_) | (have H2_ := (Option.bind_some _ _).symm.trans H; with_reducible exact H2_) | with_reducible exact H | (rw [hy137]; exact H) | exact H
                    have Ny137 := Aside0.mk hy137
                    clear hy137
                    have H' := Aside0.mk H
                    clear H
                    have p124 : 0 ≤ (x11_1 : Int) := of_decide_eq_true (by first | (with_reducible assumption) | assumption)
                    have q124 : x11_1 < (l2.length : Int) := of_decide_eq_true (by first | (with_reducible assumption) | assumption)
                    obtain ⟨ad124, e124, hx124_0⟩ := Kd.at_int HR2.out x11_1 p124 q124
                    cases e124
                    replace hx124_0 := (HB.out.cell (World.block_lt_of_cell? w _ hx124_0)).trans hx124_0
                    replace p124 := eq_true p124
                    replace q124 := eq_true q124
                    go_wp2_with (first | ((with_reducible refine gate_callee (f := 14) rfl ?_); refine goesL_ (some 42) rfl rfl Try.func14 (by kernel_rfl) rfl #[.int .i64 (rd l2 x11_1), .int .i64 9] rfl (by (try simp only [List.map_toArray, List.map_cons, List.map_nil]); first | done | rfl | (simp only [List.length_drop, List.length_take]; rfl)) ?_; (with_reducible refine (packthreadkeep_Picked.calls (rd l2 x11_1) 9 t125 _ A13.out).mono ?_); rintro e w' ⟨rfl, ⟨nd, rfl⟩⟩; refine ⟨_, rfl, ?_⟩; obtain ⟨Ao28, co28, eo28⟩ := Kd.R_slice HO_9.out; subst eo28) | ((with_reducible refine gate_builtin (b := .append) (xs := #[.tmp 58, .tmp 62]) rfl ?_); (try (refine gate_guard (by rfl) ?_; dsimp only)); at_builtin; refine Kd.N_append k65 (w0 := w) w.heap.size rfl (.tmp 58) (.tmp 62) 63 65 (.agg #[(.int .i64 0), (.int .i64 0), (.slice none 0 0)]) 40 rfl Try.underlying63 info65 rfl (by decide) (by omega) u10 x10_1 (⟨wrap64 (t125 * 100), 100, ([] : List Int)⟩ : S65) [.int .i64 (wrap64 (t125 * 100)), .int .i64 100, .slice none 0 0] (fun k_ => some k_ ≠ (.slice Ao28 t121.length co28 : Value).ownBlock) (fun k_ => ((fun k_ => some k_ ≠ (.slice Ao28 t121.length co28 : Value).ownBlock)) k_ ∧ some k_ ≠ (u10 : Value).ownBlock) rfl rfl ?aP (fun _ hk => hk) ?aF ?aO ?aB ?aS ?aL ?_; (case aP => exact (k65_mkF _ _ (⟨wrap64 (t125 * 100), 100, ([] : List Int)⟩ : S65) (Nat.le_refl _) (Kd.F_nil _ _ _))); (case aB => exact (by repeat (first | (with_reducible first | exact HB.out | apply below_alloc | apply pw_below_drewN | apply below_drew1) | exact HB.out))); (case aF => exact (fun k_ hk => Kd.fresh' (Kd.R_lt (by (with_reducible repeat (first | apply Kd.R_alloc | apply Kd.R_drewN | apply Kd.R_drew)); exact HO_9.out)) k_ hk)); (case aO => exact (by (with_reducible repeat (first | apply Kd.N_alloc | apply Kd.N_drewN | apply Kd.N_drew)); exact HO_10.out)); (case aS => exact (below_size (by repeat (first | (with_reducible first | exact HB.out | apply below_alloc | apply pw_below_drewN | apply below_drew1) | exact HB.out)))); (case aL => have := LMc27.out; omega); intro v138 w29 ho hb hg hat; rw [← Ny137.out] at ho; have n0_ := Aside0.mk (Kd.R_over' (by (with_reducible repeat (first | apply Kd.R_alloc | apply Kd.R_drewN | apply Kd.R_drew)); exact HO_9.out) (Kd.N_typed (by (with_reducible repeat (first | apply Kd.N_alloc | apply Kd.N_drewN | apply Kd.N_drew)); exact HO_10.out)) (by decide) hg); have n1_ := Aside0.mk (hb); have n2_ := Aside0.mk (ho); clear HO_9; clear HB; clear HO_10; have HO_9 := n0_; have HB := n1_; have HO139 := n2_; clear n0_ n1_ n2_; clear ho hb hg hat))
                    go_roundg kj7
                    case measure => have := HK1.out; have := HJ7.out; omega
                    case rel => exact ⟨(y137), (wrap64 (x11_1 + 1)), (by first | rfl | (simp; done) | (simp [*]; done)), H', ⟨by have := HK1.out; have := HJ7.out; omega⟩, ⟨by (with_reducible repeat (first | apply Kd.R_alloc | apply Kd.R_drewN | apply Kd.R_drew)); exact HO_9.out⟩, ⟨by (with_reducible repeat (first | apply Kd.N_alloc | apply Kd.N_drewN | apply Kd.N_drew)); exact HO139.out⟩, ⟨by repeat (first | (with_reducible first | exact HB.out | apply below_alloc | apply pw_below_drewN | apply below_drew1) | exact HB.out)⟩⟩
                  · rw [if_neg c27] at H
                    exact absurd H (by simp)
              · rw [if_neg c12] at H
                exact absurd H (by simp)
            · rw [if_neg c11] at H
              exact absurd H (by simp)
          · replace c10 := Bool.eq_false_iff.mpr c10
            subst c10
            have H1 : (if ([] : List (S65)).length + x10_1.length < 3518437208883 then ((fetch_Play.f (([] : List (S65)) ++ x10_1)).bind fun bt143 => (if bt143.2 = 0 then (if (bt143.1.length : Int) = (wrap64 ((x10_1.length : Int) + 1)) then (if 0 < (bt143.1.length : Int) then (packthreadkeep_FetchStill.j2 kj7 l3 x10_1 bt143.1 ((((rd_T71 bt143.1 0).f1).length : Int) != 6)) else (none)) else (packthreadkeep_FetchStill.j2 kj7 l3 x10_1 bt143.1 true)) else (packthreadkeep_FetchStill.j2 kj7 l3 x10_1 bt143.1 true))) else (none)) = some r := by rw [if_neg (show ¬ (false = true) by decide)] at H; exact H
            clear H
            have H := H1
            clear H1
            by_cases c30 : ([] : List (S65)).length + x10_1.length < 3518437208883
            · rw [if_pos c30] at H
              have LMc30 := Aside0.mk c30
              clear c30
              obtain ⟨y140, hy140⟩ : ∃ y_ : List (S65), y_ = (([] : List (S65)) ++ x10_1) := ⟨_, rfl⟩
              replace H : ((fetch_Play.f y140).bind fun bt143 => (if bt143.2 = 0 then (if (bt143.1.length : Int) = (wrap64 ((x10_1.length : Int) + 1)) then (if 0 < (bt143.1.length : Int) then (packthreadkeep_FetchStill.j2 kj7 l3 x10_1 bt143.1 ((((rd_T71 bt143.1 0).f1).length : Int) != 6)) else (none)) else (packthreadkeep_FetchStill.j2 kj7 l3 x10_1 bt143.1 true)) else (packthreadkeep_FetchStill.j2 kj7 l3 x10_1 bt143.1 true))) = some r := by first | (rw [hy140]; with_reducible exact H) | (have H2_ := (Option.bind_some _ _).symm.trans H; rw [hy140]; with_reducible exact H2_) | (have H2_ := (Option.bind_some _ _).symm.trans H; with_reducible exact H2_) | with_reducible exact H | (rw [hy140]; exact H) | exact H
              have Ny140 := Aside0.mk hy140
              clear hy140
              replace H := Option.bind_eq_some_iff.mp H
              obtain ⟨⟨t143, t144⟩, A310, H⟩ := H
              replace H : (if t144 = 0 then (if (t143.length : Int) = (wrap64 ((x10_1.length : Int) + 1)) then (if 0 < (t143.length : Int) then (packthreadkeep_FetchStill.j2 kj7 l3 x10_1 t143 ((((rd_T71 t143 0).f1).length : Int) != 6)) else (none)) else (packthreadkeep_FetchStill.j2 kj7 l3 x10_1 t143 true)) else (packthreadkeep_FetchStill.j2 kj7 l3 x10_1 t143 true)) = some r := H
              have A31 := Aside0.mk A310
              clear A310
              have HC32 := Aside0.mk H
              clear H
              obtain ⟨Ao34, co34, eo34⟩ := Kd.N_slice HO_10.out
              subst eo34
              go_upto_region 12 with (first | ((with_reducible refine gate_builtin (b := .append) (xs := #[.const (.slice none 0 0), .tmp 65]) rfl ?_); (try (refine gate_guard (by rfl) ?_; dsimp only)); at_builtin; refine Kd.N_append_rows k65 (w0 := w) w.heap.size rfl (.const (.slice none 0 0)) (.tmp 65) 63 65 (.agg #[(.int .i64 0), (.int .i64 0), (.slice none 0 0)]) 40 rfl Try.underlying63 info65 rfl (by decide) (by omega) (.slice none 0 0) ([] : List (S65)) x10_1 _ _ _ (fun k_ => some k_ ≠ (v122 : Value).ownBlock) (fun k_ => ((fun k_ => some k_ ≠ (v122 : Value).ownBlock)) k_ ∧ some k_ ≠ (.slice none 0 0 : Value).ownBlock) rfl rfl ?aO ?aR (fun _ hk => hk) ?aF ?aB ?aS ?aL ?_; (case aR => exact (by skip; exact Kd.N_F (Kd.N_mono (ok' := (fun k_ => ((fun k_ => some k_ ≠ (v122 : Value).ownBlock)) k_ ∧ some k_ ≠ (.slice none 0 0 : Value).ownBlock)) (HO_10.out) (fun k_ hk => ⟨hk, (by simp [Value.ownBlock])⟩)))); (case aB => exact (by repeat (first | (with_reducible first | exact HB.out | apply below_alloc | apply pw_below_drewN | apply below_drew1) | exact HB.out))); (case aF => exact (fun k_ hk => Kd.fresh' (Kd.R_lt (by (with_reducible repeat (first | apply Kd.R_alloc | apply Kd.R_drewN | apply Kd.R_drew)); exact HO_9.out)) k_ hk)); (case aO => exact ((Kd.N_nil _ _ _ _ (fun k_ => some k_ ≠ (v122 : Value).ownBlock)))); (case aS => exact (below_size (by repeat (first | (with_reducible first | exact HB.out | apply below_alloc | apply pw_below_drewN | apply below_drew1) | exact HB.out)))); (case aL => have := LMc30.out; omega); intro v141 w33 ho hb hg hat; rw [← Ny140.out] at ho; have n0_ := Aside0.mk (Kd.R_grown (by (with_reducible repeat (first | apply Kd.R_alloc | apply Kd.R_drewN | apply Kd.R_drew)); exact HO_9.out) hg (fun _ _ => by simp [Value.ownBlock])); have n1_ := Aside0.mk (Kd.N_afterv (Kd.N_apart_nil (by (with_reducible repeat (first | apply Kd.N_alloc | apply Kd.N_drewN | apply Kd.N_drew)); exact HO_10.out)) hg hat); have n2_ := Aside0.mk (hb); have n3_ := Aside0.mk (ho); clear HO_9; clear HO_10; clear HB; have HO_9 := n0_; have HO_10 := n1_; have HB := n2_; have HO142 := n3_; clear n0_ n1_ n2_ n3_; clear ho hb hg hat; obtain ⟨Ao35, co35, eo35⟩ := Kd.N_slice HO142.out; subst eo35) | ((with_reducible refine gate_callee (f := 29) rfl ?_); refine goesL_ (some 67) rfl rfl Try.func29 (by kernel_rfl) rfl #[.slice Ao35 y140.length co35] rfl (by (try simp only [List.map_toArray, List.map_cons, List.map_nil]); first | done | rfl | (simp only [List.length_drop, List.length_take]; rfl)) ?_; (with_reducible refine (fetch_Play.calls _ _ y140 t143 t144 _ ?side1 ?side2 A31.out).mono ?_); (case side1 => repeat (first | exact (Kd.N_reads' HO142.out).2.2 | (with_reducible refine Kd.C_alloc ?_ _) | (with_reducible refine Kd.C_drewN ?_ _) | (with_reducible refine Kd.C_drew ?_))); (case side2 => exact (Kd.N_reads' HO142.out).2.1); rintro e w36 ⟨v145, rfl, ho0, hb⟩; refine ⟨_, rfl, ?_⟩; have n0_ := Aside0.mk (Kd.R_below (by (with_reducible repeat (first | apply Kd.R_alloc | apply Kd.R_drewN | apply Kd.R_drew)); exact HO_9.out) hb); have n1_ := Aside0.mk (Kd.N_elder' (by (with_reducible repeat (first | apply Kd.N_alloc | apply Kd.N_drewN | apply Kd.N_drew)); exact HO_10.out) (Kd.S_base ho0) hb); have n2_ := Aside0.mk (Kd.N_elder' (by (with_reducible repeat (first | apply Kd.N_alloc | apply Kd.N_drewN | apply Kd.N_drew)); exact HO142.out) (Kd.S_base ho0) hb); have n3_ := Aside0.mk (Kd.N_lower (Kd.N_mono (ok' := fun k_ => some k_ ≠ (v122 : Value).ownBlock ∧ some k_ ≠ (.slice Ao34 x10_1.length co34 : Value).ownBlock ∧ some k_ ≠ (.slice Ao35 y140.length co35 : Value).ownBlock) (Kd.S_N (Kd.S_bound ho0)) (fun k_ hk_ => ⟨(Kd.fresh' (Kd.R_lt (by (with_reducible repeat (first | apply Kd.R_alloc | apply Kd.R_drewN | apply Kd.R_drew)); exact HO_9.out)) k_ hk_.2.1), (Kd.fresh' (Kd.N_lt (by (with_reducible repeat (first | apply Kd.N_alloc | apply Kd.N_drewN | apply Kd.N_drew)); exact HO_10.out)) k_ hk_.2.1), (Kd.fresh' (Kd.N_lt (by (with_reducible repeat (first | apply Kd.N_alloc | apply Kd.N_drewN | apply Kd.N_drew)); exact HO142.out)) k_ hk_.2.1)⟩)) (below_size (by repeat (first | (with_reducible first | exact HB.out | apply below_alloc | apply pw_below_drewN | apply below_drew1) | exact HB.out)))); have n4_ := Aside0.mk (below_step (by repeat (first | (with_reducible first | exact HB.out | apply below_alloc | apply pw_below_drewN | apply below_drew1) | exact HB.out)) hb); clear HO_9; clear HO_10; clear HO142; clear HB; have HO_9 := n0_; have HO_10 := n1_; have HO142 := n2_; have HO146 := n3_; have HB := n4_; clear n0_ n1_ n2_ n3_ n4_; (try clear hb); (try clear hb2); (try clear hk); (try clear hi); (try clear ho0)))
              (try simp only [Act.put, List.setIfInBounds_toArray, List.set_cons_zero, List.set_cons_succ])
              go_cut [87] (fun v87 wc => ∃ (kq : Nat) (x87_31 : Bool), v87 = .bool x87_31 ∧ Aside0 (packthreadkeep_FetchStill.j2 kq l3 x10_1 t143 x87_31 = some r) ∧ Aside0 (kq ≤ kj7) ∧ Aside0 (Kd.N k65 65 wc w.heap.size (fun k_ => some k_ ≠ (v145 : Value).ownBlock) (.slice Ao34 x10_1.length co34) x10_1) ∧ Aside0 (Kd.N k71 71 wc w.heap.size (fun k_ => some k_ ≠ ((.slice Ao34 x10_1.length co34) : Value).ownBlock) v145 t143) ∧ Aside0 (Below w.heap.size w wc))
              case first =>
                have H := HC32.out
                clear HC32
                by_cases c37 : t144 = 0
                · rw [if_pos c37] at H
                  have c37b0 : (t144 == 0) = true := beq_iff_eq.mpr c37
                  have c37b1 : (t144 != 0) = false := bne_eq_false_iff_eq.mpr c37
                  clear c37
                  (first | rw [c37b0] | (simp only [i64_w, i32_w]; rw [c37b0]) | rw [c37b1] | skip)
                  by_cases c38 : (t143.length : Int) = (wrap64 ((x10_1.length : Int) + 1))
                  · rw [if_pos c38] at H
                    have c38b0 : ((t143.length : Int) == (wrap64 ((x10_1.length : Int) + 1))) = true := beq_iff_eq.mpr c38
                    have c38b1 : ((t143.length : Int) != (wrap64 ((x10_1.length : Int) + 1))) = false := bne_eq_false_iff_eq.mpr c38
                    clear c38
                    by_cases c39 : 0 < (t143.length : Int)
                    · rw [if_pos c39] at H
                      have c39b0 : decide (0 < (t143.length : Int)) = true := decide_eq_true c39
                      have c39b1 : decide (0 < t143.length) = true := decide_eq_true (by omega)
                      clear c39
                      have H' := Aside0.mk H
                      clear H
                      obtain ⟨Ao40, co40, eo40⟩ := Kd.N_slice HO146.out
                      subst eo40
                      have p147 : 0 ≤ (0 : Int) := (by omega)
                      have q147 : 0 < (t143.length : Int) := of_decide_eq_true (by first | (with_reducible assumption) | assumption)
                      obtain ⟨ad147, A147_1, c147_1, A147_3, c147_3, e147, hx147_0, hx147_1, hx147_2, hx147_3, hl147_1, hi147_1, hl147_3, hi147_3⟩ := at_T71 (Kd.N_reads' HO146.out).2.2 0 p147 q147
                      cases e147
                      obtain ⟨ce147, hce147, hMe147, hcc147⟩ := Kd.N_get HO146.out z71 0 p147 (by first | exact q147 | exact of_decide_eq_true (by first | (with_reducible assumption) | assumption) | (have e_ := (Kd.N_reads' HO146.out).1; omega))
                      obtain ⟨ua147_1, uc147_1, ua147_3, uc147_3, rfl, ul147_1, ge147_1, ul147_3, ge147_3⟩ := k71_openF hMe147
                      have hv147_1 := hcc147 1 _ rfl
                      rw [add_field _ _ 1 (by omega)] at hv147_1
                      replace hv147_1 := Option.some.inj (hv147_1.symm.trans hx147_1)
                      injection hv147_1 with hva_ hvn_ hvc_
                      rw [hva_] at ge147_1
                      rw [hvc_] at ul147_1
                      have HL147_1 := Aside0.mk (show Kd.V k82 82 _ w.heap.size _ _ ((rd_T71 t143 0).f1) from Kd.V_mk ul147_1 ge147_1)
                      clear hva_ hvn_ hvc_ ge147_1 ul147_1
                      have hv147_3 := hcc147 3 _ rfl
                      rw [add_field _ _ 3 (by omega)] at hv147_3
                      replace hv147_3 := Option.some.inj (hv147_3.symm.trans hx147_3)
                      injection hv147_3 with hva_ hvn_ hvc_
                      rw [hva_] at ge147_3
                      rw [hvc_] at ul147_3
                      have HL147_3 := Aside0.mk (show Kd.V (Kd.int .u8) 5 _ w.heap.size _ _ ((rd_T71 t143 0).f3) from Kd.V_mk ul147_3 ge147_3)
                      clear hva_ hvn_ hvc_ ge147_3 ul147_3
                      clear hcc147 hce147
                      have qi147 : (0 < t143.length) = True := eq_true (by omega)
                      (try rw [show ((0 : Int)).toNat = 0 from rfl] at hx147_0)
                      (try rw [show 0 * 4 = 0 from rfl] at hx147_0)
                      (try rw [Addr.add_zero'] at hx147_0)
                      (try rw [show ((0 : Int)).toNat = 0 from rfl] at hx147_1)
                      (try rw [show 0 * 4 = 0 from rfl] at hx147_1)
                      (try rw [Addr.add_zero'] at hx147_1)
                      (try rw [show ((0 : Int)).toNat = 0 from rfl] at hx147_2)
                      (try rw [show 0 * 4 = 0 from rfl] at hx147_2)
                      (try rw [Addr.add_zero'] at hx147_2)
                      (try rw [show ((0 : Int)).toNat = 0 from rfl] at hx147_3)
                      (try rw [show 0 * 4 = 0 from rfl] at hx147_3)
                      (try rw [Addr.add_zero'] at hx147_3)
                      have HR147_1 := Aside0.mk hi147_1
                      have HC147_1 := Aside0.mk hl147_1
                      clear hi147_1 hl147_1
                      have HR147_3 := Aside0.mk hi147_3
                      have HC147_3 := Aside0.mk hl147_3
                      clear hi147_3 hl147_3
                      replace p147 := eq_true p147
                      replace q147 := eq_true q147
                      go_wp2
                      go_meet
                      case rel => exact ⟨_, (((((rd_T71 t143 0).f1).length : Int) != 6)), (by first | rfl | (simp; done) | (simp [*]; done)), H', ⟨by have := HK1.out; have := HJ7.out; first | omega | exact Nat.le_refl _⟩, ⟨by (with_reducible repeat (first | apply Kd.N_alloc | apply Kd.N_drewN | apply Kd.N_drew)); exact Kd.N_mono HO_10.out (fun _ hk => by first | exact hk.2 | (and_intros <;> first | exact hk | exact hk.1 | exact hk.2 | exact hk.1.1 | exact hk.1.2 | exact hk.2.1 | exact hk.2.2 | exact hk.1.1.1 | exact hk.1.1.2 | exact hk.2.2.1 | exact hk.2.2.2))⟩, ⟨by (with_reducible repeat (first | apply Kd.N_alloc | apply Kd.N_drewN | apply Kd.N_drew)); exact Kd.N_mono HO146.out (fun _ hk => by first | exact hk.2.1 | (and_intros <;> first | exact hk | exact hk.1 | exact hk.2 | exact hk.1.1 | exact hk.1.2 | exact hk.2.1 | exact hk.2.2 | exact hk.1.1.1 | exact hk.1.1.2 | exact hk.2.2.1 | exact hk.2.2.2))⟩, ⟨by repeat (first | (with_reducible first | exact HB.out | apply below_alloc | apply pw_below_drewN | apply below_drew1) | exact HB.out)⟩⟩
                    · rw [if_neg c39] at H
                      exact absurd H (by simp)
                  · rw [if_neg c38] at H
                    have c38b0 : ((t143.length : Int) == (wrap64 ((x10_1.length : Int) + 1))) = false := beq_eq_false_iff_ne.mpr c38
                    have c38b1 : ((t143.length : Int) != (wrap64 ((x10_1.length : Int) + 1))) = true := bne_iff_ne.mpr c38
                    have H' := Aside0.mk H
                    clear H
                    obtain ⟨Ao41, co41, eo41⟩ := Kd.N_slice HO146.out
                    subst eo41
                    go_wp2
                    go_meet
                    case rel => exact ⟨_, (true), (by first | rfl | (simp; done) | (simp [*]; done)), H', ⟨by have := HK1.out; have := HJ7.out; first | omega | exact Nat.le_refl _⟩, ⟨by (with_reducible repeat (first | apply Kd.N_alloc | apply Kd.N_drewN | apply Kd.N_drew)); exact Kd.N_mono HO_10.out (fun _ hk => by first | exact hk.2 | (and_intros <;> first | exact hk | exact hk.1 | exact hk.2 | exact hk.1.1 | exact hk.1.2 | exact hk.2.1 | exact hk.2.2 | exact hk.1.1.1 | exact hk.1.1.2 | exact hk.2.2.1 | exact hk.2.2.2))⟩, ⟨by (with_reducible repeat (first | apply Kd.N_alloc | apply Kd.N_drewN | apply Kd.N_drew)); exact Kd.N_mono HO146.out (fun _ hk => by first | exact hk.2.1 | (and_intros <;> first | exact hk | exact hk.1 | exact hk.2 | exact hk.1.1 | exact hk.1.2 | exact hk.2.1 | exact hk.2.2 | exact hk.1.1.1 | exact hk.1.1.2 | exact hk.2.2.1 | exact hk.2.2.2))⟩, ⟨by repeat (first | (with_reducible first | exact HB.out | apply below_alloc | apply pw_below_drewN | apply below_drew1) | exact HB.out)⟩⟩
                · rw [if_neg c37] at H
                  have c37b0 : (t144 == 0) = false := beq_eq_false_iff_ne.mpr c37
                  have c37b1 : (t144 != 0) = true := bne_iff_ne.mpr c37
                  (first | rw [c37b0] | (simp only [i64_w, i32_w]; rw [c37b0]) | rw [c37b1] | skip)
                  have H' := Aside0.mk H
                  clear H
                  go_wp2
                  go_meet
                  case rel => exact ⟨_, (true), (by first | rfl | (simp; done) | (simp [*]; done)), H', ⟨by have := HK1.out; have := HJ7.out; first | omega | exact Nat.le_refl _⟩, ⟨by (with_reducible repeat (first | apply Kd.N_alloc | apply Kd.N_drewN | apply Kd.N_drew)); exact Kd.N_mono HO_10.out (fun _ hk => by first | exact hk.2 | (and_intros <;> first | exact hk | exact hk.1 | exact hk.2 | exact hk.1.1 | exact hk.1.2 | exact hk.2.1 | exact hk.2.2 | exact hk.1.1.1 | exact hk.1.1.2 | exact hk.2.2.1 | exact hk.2.2.2))⟩, ⟨by (with_reducible repeat (first | apply Kd.N_alloc | apply Kd.N_drewN | apply Kd.N_drew)); exact Kd.N_mono HO146.out (fun _ hk => by first | exact hk.2.1 | (and_intros <;> first | exact hk | exact hk.1 | exact hk.2 | exact hk.1.1 | exact hk.1.2 | exact hk.2.1 | exact hk.2.2 | exact hk.1.1.1 | exact hk.1.1.2 | exact hk.2.2.1 | exact hk.2.2.2))⟩, ⟨by repeat (first | (with_reducible first | exact HB.out | apply below_alloc | apply pw_below_drewN | apply below_drew1) | exact HB.out)⟩⟩
              case rest =>
                clear HC32
                try clear c1
                try clear p1
                try clear q1
                try clear hx1
                try clear qi1
                try clear c2
                try clear p2
                try clear q2
                try clear c3
                try clear p6
                try clear c9
                try clear c9b0
                try clear c9b1
                try clear c10
                try clear c11
                try clear c11b0
                try clear c12
                try clear c12b0
                try clear p12
                try clear q12
                try clear hx12
                try clear c13
                try clear c14
                try clear c14b0
                try clear p14
                try clear q14
                try clear hx14
                try clear qi14
                try clear c17
                try clear c17b0
                try clear c17b1
                try clear c18
                try clear c18b0
                try clear c18b1
                try clear c19
                try clear c19b0
                try clear c19b1
                try clear c20
                try clear c21
                try clear c23
                try clear q23
                try clear c26
                try clear c27
                try clear c29
                try clear c30
                try clear c37
                try clear c37b0
                try clear c37b1
                try clear c38
                try clear c38b0
                try clear c38b1
                try clear c39
                try clear c39b0
                try clear c39b1
                try clear hx124_0
                try clear hx147_0
                try clear hx147_1
                try clear hx147_2
                try clear hx147_3
                try clear p124
                try clear p147
                try clear p2
                try clear q023
                try clear q124
                try clear q147
                try clear q23
                obtain ⟨kq, x87_31, rfl, HA, HJ31, HO_10, HO_14, HB⟩ := hcut
                cases kq with
                | zero => exact absurd HA.out (by simp [packthreadkeep_FetchStill.j2])
                | succ kj31 =>
                  have H := HA.out
                  clear HA
                  simp only [packthreadkeep_FetchStill.j2] at H
                  by_cases c42 : x87_31 = true
                  · subst c42
                    have H1 : (some false) = some r := by rw [if_pos rfl] at H; exact H
                    clear H
                    have H := H1
                    clear H1
                    obtain rfl := Option.some.inj H
                    go_wp2
                    go_ret
                    exact ⟨by first | rfl | (simp [errW_none, errW_some] <;> rfl) | (simp [*, errW_none, errW_some] <;> rfl), by repeat (first | (with_reducible first | exact HB.out | apply below_alloc | apply pw_below_drewN | apply below_drew1) | exact HB.out)⟩
                  · replace c42 := Bool.eq_false_iff.mpr c42
                    subst c42
                    have H1 : (packthreadkeep_FetchStill.l1 kj31 l3 x10_1 t143 ([] : List (S65)) ([] : List (S71)) 0) = some r := by rw [if_neg (show ¬ (false = true) by decide)] at H; exact H
                    clear H
                    have H := H1
                    clear H1
                    have H' := Aside0.mk H
                    clear H
                    go_wp2
                    go_loopg [16, 17, 18] kj31 (fun kq v16 v17 v18 w' => ∃ (x16_4 : List (S65)) (x17_4 : List (S71)) (x18_4 : Int), v18 = .int .i64 x18_4 ∧ Aside0 (packthreadkeep_FetchStill.l1 kq l3 x10_1 t143 x16_4 x17_4 x18_4 = some r) ∧ Aside0 (kq ≤ kj31) ∧ Aside0 (Kd.N k65 65 w' w.heap.size (fun k_ => some k_ ≠ (v145 : Value).ownBlock ∧ some k_ ≠ (v16 : Value).ownBlock ∧ some k_ ≠ (v17 : Value).ownBlock) (.slice Ao34 x10_1.length co34) x10_1) ∧ Aside0 (Kd.N k71 71 w' w.heap.size (fun k_ => some k_ ≠ ((.slice Ao34 x10_1.length co34) : Value).ownBlock ∧ some k_ ≠ (v16 : Value).ownBlock ∧ some k_ ≠ (v17 : Value).ownBlock) v145 t143) ∧ Aside0 (Kd.N k65 65 w' w.heap.size (fun k_ => some k_ ≠ ((.slice Ao34 x10_1.length co34) : Value).ownBlock ∧ some k_ ≠ (v145 : Value).ownBlock ∧ some k_ ≠ (v17 : Value).ownBlock) v16 x16_4) ∧ Aside0 (Kd.N k71 71 w' w.heap.size (fun k_ => some k_ ≠ ((.slice Ao34 x10_1.length co34) : Value).ownBlock ∧ some k_ ≠ (v145 : Value).ownBlock ∧ some k_ ≠ (v16 : Value).ownBlock) v17 x17_4) ∧ Aside0 (Below w.heap.size w w'))
                    case atStart => exact ⟨(([] : List (S65))), (([] : List (S71))), (0), (by first | rfl | (simp; done) | (simp [*]; done)), H', ⟨Nat.le_refl _⟩, ⟨by (with_reducible repeat (first | apply Kd.N_alloc | apply Kd.N_drewN | apply Kd.N_drew)); exact Kd.N_mono HO_10.out (fun _ hk => ⟨hk, ⟨(by simp [Value.ownBlock]), (by simp [Value.ownBlock])⟩⟩)⟩, ⟨by (with_reducible repeat (first | apply Kd.N_alloc | apply Kd.N_drewN | apply Kd.N_drew)); exact Kd.N_mono HO_14.out (fun _ hk => ⟨hk, ⟨(by simp [Value.ownBlock]), (by simp [Value.ownBlock])⟩⟩)⟩, ⟨by first | exact Kd.S_nil _ _ _ _ _ | exact Kd.N_nil _ _ _ _ _ | exact Kd.V_nil _ _ _ _ _ | exact Kd.Q_nil _ _ _ _ _ | exact Kd.R_nil _ _ _ _ _⟩, ⟨by first | exact Kd.S_nil _ _ _ _ _ | exact Kd.N_nil _ _ _ _ _ | exact Kd.V_nil _ _ _ _ _ | exact Kd.Q_nil _ _ _ _ _ | exact Kd.R_nil _ _ _ _ _⟩, ⟨by repeat (first | (with_reducible first | exact HB.out | apply below_alloc | apply pw_below_drewN | apply below_drew1) | exact HB.out)⟩⟩
                    case round =>
                      clear H'
                      try clear c1
                      try clear p1
                      try clear q1
                      try clear hx1
                      try clear qi1
                      try clear c2
                      try clear p2
                      try clear q2
                      try clear c3
                      try clear c4
                      try clear p6
                      try clear c9
                      try clear c9b0
                      try clear c9b1
                      try clear c10
                      try clear c11
                      try clear c11b0
                      try clear c12
                      try clear c12b0
                      try clear p12
                      try clear q12
                      try clear hx12
                      try clear c13
                      try clear c14
                      try clear c14b0
                      try clear p14
                      try clear q14
                      try clear hx14
                      try clear qi14
                      try clear c17
                      try clear c17b0
                      try clear c17b1
                      try clear c18
                      try clear c18b0
                      try clear c18b1
                      try clear c19
                      try clear c19b0
                      try clear c19b1
                      try clear c20
                      try clear c21
                      try clear c23
                      try clear q23
                      try clear c26
                      try clear c27
                      try clear c29
                      try clear c30
                      try clear c37
                      try clear c37b0
                      try clear c37b1
                      try clear c38
                      try clear c38b0
                      try clear c38b1
                      try clear c39
                      try clear c39b0
                      try clear c39b1
                      try clear c42
                      try clear hx124_0
                      try clear hx147_0
                      try clear hx147_1
                      try clear hx147_2
                      try clear hx147_3
                      try clear p1
                      try clear p12
                      try clear p124
                      try clear p14
                      try clear p147
                      try clear p2
                      try clear p6
                      try clear q023
                      try clear q1
                      try clear q12
                      try clear q124
                      try clear q14
                      try clear q147
                      try clear q2
                      try clear q23
                      obtain ⟨x16_4, x17_4, x18_4, rfl, HA, HK4, HO_10, HO_14, HO_16, HO_17, HB⟩ := hrel
                      cases gk with
                      | zero => exact absurd HA.out (by simp [packthreadkeep_FetchStill.l1])
                      | succ k4 =>
                        have H := HA.out
                        clear HA
                        simp only [packthreadkeep_FetchStill.l1] at H
                        by_cases c43 : x18_4 < (x10_1.length : Int)
                        · rw [if_pos c43] at H
                          have c43b0 : decide (x18_4 < (x10_1.length : Int)) = true := decide_eq_true c43
                          clear c43
                          obtain ⟨ji44, hji44⟩ : ∃ j_ : Int, (wrap64 (x18_4 + 1)) = j_ := ⟨_, rfl⟩
                          replace H : (if 0 ≤ (ji44) then (if (ji44) < (t143.length : Int) then (if ((rd_T71 t143 (ji44)).f0) = 0 then (if 0 ≤ x18_4 then (if x16_4.length < 3518437208883 then (if x17_4.length < 2199023255552 then (packthreadkeep_FetchStill.j4 k4 l3 x10_1 t143 (x16_4 ++ [(⟨(rd_T65 x10_1 x18_4).f0, (rd_T65 x10_1 x18_4).f1, (rd_T65 x10_1 x18_4).f2⟩ : S65)]) (x17_4 ++ [(⟨(rd_T71 t143 (ji44)).f0, (rd_T71 t143 (ji44)).f1, (rd_T71 t143 (ji44)).f2, (rd_T71 t143 (ji44)).f3⟩ : S71)]) x18_4) else (none)) else (none)) else (none)) else (packthreadkeep_FetchStill.j4 k4 l3 x10_1 t143 x16_4 x17_4 x18_4)) else (none)) else (none)) = some r := by first | (rw [hji44] at H; exact H) | (simp only [hji44] at H ⊢; exact H)
                          have hji44w : (IntKind.i64.wrap (x18_4 + 1)) = ji44 := (i64_w _).trans hji44
                          by_cases c45 : 0 ≤ (ji44)
                          · rw [if_pos c45] at H
                            have c45b0 : decide (0 ≤ (ji44)) = true := decide_eq_true c45
                            clear c45
                            by_cases c46 : (ji44) < (t143.length : Int)
                            · rw [if_pos c46] at H
                              have c46b0 : decide ((ji44) < (t143.length : Int)) = true := decide_eq_true c46
                              clear c46
                              have HC47 := Aside0.mk H
                              clear H
                              obtain ⟨Ao48, co48, eo48⟩ := Kd.N_slice HO_14.out
                              subst eo48
                              have p148 : 0 ≤ ((ji44) : Int) := of_decide_eq_true (by first | (with_reducible assumption) | assumption)
                              have q148 : (ji44) < (t143.length : Int) := of_decide_eq_true (by first | (with_reducible assumption) | assumption)
                              obtain ⟨ad148, A148_1, c148_1, A148_3, c148_3, e148, hx148_0, hx148_1, hx148_2, hx148_3, hl148_1, hi148_1, hl148_3, hi148_3⟩ := at_T71 (Kd.N_reads' HO_14.out).2.2 (ji44) p148 q148
                              cases e148
                              obtain ⟨ce148, hce148, hMe148, hcc148⟩ := Kd.N_get HO_14.out z71 (ji44) p148 (by first | exact q148 | exact of_decide_eq_true (by first | (with_reducible assumption) | assumption) | (have e_ := (Kd.N_reads' HO_14.out).1; omega))
                              obtain ⟨ua148_1, uc148_1, ua148_3, uc148_3, rfl, ul148_1, ge148_1, ul148_3, ge148_3⟩ := k71_openF hMe148
                              have hv148_1 := hcc148 1 _ rfl
                              rw [add_field _ _ 1 (by omega)] at hv148_1
                              replace hv148_1 := Option.some.inj (hv148_1.symm.trans hx148_1)
                              injection hv148_1 with hva_ hvn_ hvc_
                              rw [hva_] at ge148_1
                              rw [hvc_] at ul148_1
                              have HL148_1 := Aside0.mk (show Kd.V k82 82 _ w.heap.size _ _ ((rd_T71 t143 (ji44)).f1) from Kd.V_mk ul148_1 ge148_1)
                              clear hva_ hvn_ hvc_ ge148_1 ul148_1
                              have hv148_3 := hcc148 3 _ rfl
                              rw [add_field _ _ 3 (by omega)] at hv148_3
                              replace hv148_3 := Option.some.inj (hv148_3.symm.trans hx148_3)
                              injection hv148_3 with hva_ hvn_ hvc_
                              rw [hva_] at ge148_3
                              rw [hvc_] at ul148_3
                              have HL148_3 := Aside0.mk (show Kd.V (Kd.int .u8) 5 _ w.heap.size _ _ ((rd_T71 t143 (ji44)).f3) from Kd.V_mk ul148_3 ge148_3)
                              clear hva_ hvn_ hvc_ ge148_3 ul148_3
                              clear hcc148 hce148
                              have HR148_1 := Aside0.mk hi148_1
                              have HC148_1 := Aside0.mk hl148_1
                              clear hi148_1 hl148_1
                              have HR148_3 := Aside0.mk hi148_3
                              have HC148_3 := Aside0.mk hl148_3
                              clear hi148_3 hl148_3
                              replace p148 := eq_true p148
                              replace q148 := eq_true q148
                              go_upto_if 100 with (fail)
                              go_cut [16, 17] (fun v16 v17 wc => ∃ (kq : Nat) (x16_46 : List (S65)) (x17_46 : List (S71)), Aside0 (packthreadkeep_FetchStill.j4 kq l3 x10_1 t143 x16_46 x17_46 x18_4 = some r) ∧ Aside0 (kq ≤ k4) ∧ Aside0 (Kd.N k65 65 wc w.heap.size (fun k_ => some k_ ≠ ((.slice (some ad148) t143.length co48) : Value).ownBlock ∧ some k_ ≠ (v16 : Value).ownBlock ∧ some k_ ≠ (v17 : Value).ownBlock) (.slice Ao34 x10_1.length co34) x10_1) ∧ Aside0 (Kd.N k71 71 wc w.heap.size (fun k_ => some k_ ≠ ((.slice Ao34 x10_1.length co34) : Value).ownBlock ∧ some k_ ≠ (v16 : Value).ownBlock ∧ some k_ ≠ (v17 : Value).ownBlock) (.slice (some ad148) t143.length co48) t143) ∧ Aside0 (Kd.N k65 65 wc w.heap.size (fun k_ => some k_ ≠ ((.slice Ao34 x10_1.length co34) : Value).ownBlock ∧ some k_ ≠ ((.slice (some ad148) t143.length co48) : Value).ownBlock ∧ some k_ ≠ (v17 : Value).ownBlock) v16 x16_46) ∧ Aside0 (Kd.N k71 71 wc w.heap.size (fun k_ => some k_ ≠ ((.slice Ao34 x10_1.length co34) : Value).ownBlock ∧ some k_ ≠ ((.slice (some ad148) t143.length co48) : Value).ownBlock ∧ some k_ ≠ (v16 : Value).ownBlock) v17 x17_46) ∧ Aside0 (Below w.heap.size w wc))
                              case first =>
                                have H := HC47.out
                                clear HC47
                                by_cases c49 : ((rd_T71 t143 (ji44)).f0) = 0
                                · rw [if_pos c49] at H
                                  have c49b0 : (((rd_T71 t143 (ji44)).f0) == 0) = true := beq_iff_eq.mpr c49
                                  have c49b1 : (((rd_T71 t143 (ji44)).f0) != 0) = false := bne_eq_false_iff_eq.mpr c49
                                  clear c49
                                  (first | rw [c49b0] | (simp only [i64_w, i32_w]; rw [c49b0]) | rw [c49b1] | skip)
                                  by_cases c50 : 0 ≤ x18_4
                                  · rw [if_pos c50] at H
                                    have c50b0 : decide (0 ≤ x18_4) = true := decide_eq_true c50
                                    clear c50
                                    by_cases c51 : x16_4.length < 3518437208883
                                    · rw [if_pos c51] at H
                                      have LMc51 := Aside0.mk c51
                                      clear c51
                                      obtain ⟨y150, hy150⟩ : ∃ y_ : List (S65), y_ = (x16_4 ++ [(⟨(rd_T65 x10_1 x18_4).f0, (rd_T65 x10_1 x18_4).f1, (rd_T65 x10_1 x18_4).f2⟩ : S65)]) := ⟨_, rfl⟩
                                      replace H : (if x17_4.length < 2199023255552 then (packthreadkeep_FetchStill.j4 k4 l3 x10_1 t143 y150 (x17_4 ++ [(⟨(rd_T71 t143 (ji44)).f0, (rd_T71 t143 (ji44)).f1, (rd_T71 t143 (ji44)).f2, (rd_T71 t143 (ji44)).f3⟩ : S71)]) x18_4) else (none)) = some r := by first | (rw [hy150]; with_reducible exact H) | (have H2_ := (Option.bind_some _ _).symm.trans H; rw [hy150]; with_reducible exact H2_) | (have H2_ := (Option.bind_some _ _).symm.trans H; with_reducible exact H2_) | with_reducible exact H | (rw [hy150]; exact H) | exact H
                                      have Ny150 := Aside0.mk hy150
                                      clear hy150
                                      by_cases c52 : x17_4.length < 2199023255552
                                      · rw [if_pos c52] at H
                                        have LMc52 := Aside0.mk c52
                                        clear c52
                                        obtain ⟨y154, hy154⟩ : ∃ y_ : List (S71), y_ = (x17_4 ++ [(⟨(rd_T71 t143 (ji44)).f0, (rd_T71 t143 (ji44)).f1, (rd_T71 t143 (ji44)).f2, (rd_T71 t143 (ji44)).f3⟩ : S71)]) := ⟨_, rfl⟩
                                        replace H : (packthreadkeep_FetchStill.j4 k4 l3 x10_1 t143 y150 y154 x18_4) = some r := by first | (rw [hy154]; with_reducible exact H) | (have H2_ := (Option.bind_some _ _).symm.trans H; rw [hy154]; with_reducible exact H2_) | (have H2_ := (Option.bind_some _ _).symm.trans H; with_reducible exact H2_) | with_reducible exact H | (rw [hy154]; exact H) | exact H
                                        have Ny154 := Aside0.mk hy154
                                        clear hy154
                                        have H' := Aside0.mk H
                                        clear H
                                        have p149 : 0 ≤ (x18_4 : Int) := of_decide_eq_true (by first | (with_reducible assumption) | assumption)
                                        have q149 : x18_4 < (x10_1.length : Int) := of_decide_eq_true (by first | (with_reducible assumption) | assumption)
                                        obtain ⟨ad149, A149_2, c149_2, e149, hx149_0, hx149_1, hx149_2, hl149_2, hi149_2⟩ := at_T65 (Kd.N_reads' HO_10.out).2.2 x18_4 p149 q149
                                        cases e149
                                        obtain ⟨ce149, hce149, hMe149, hcc149⟩ := Kd.N_get HO_10.out z65 x18_4 p149 (by first | exact q149 | exact of_decide_eq_true (by first | (with_reducible assumption) | assumption) | (have e_ := (Kd.N_reads' HO_10.out).1; omega))
                                        obtain ⟨ua149_2, uc149_2, rfl, ul149_2, ge149_2⟩ := k65_openF hMe149
                                        have hv149_2 := hcc149 2 _ rfl
                                        rw [add_field _ _ 2 (by omega)] at hv149_2
                                        replace hv149_2 := Option.some.inj (hv149_2.symm.trans hx149_2)
                                        injection hv149_2 with hva_ hvn_ hvc_
                                        rw [hva_] at ge149_2
                                        rw [hvc_] at ul149_2
                                        have HL149_2 := Aside0.mk (show Kd.V (Kd.int .u8) 5 _ w.heap.size _ _ ((rd_T65 x10_1 x18_4).f2) from Kd.V_mk ul149_2 ge149_2)
                                        clear hva_ hvn_ hvc_ ge149_2 ul149_2
                                        clear hcc149 hce149
                                        have HR149_2 := Aside0.mk hi149_2
                                        have HC149_2 := Aside0.mk hl149_2
                                        clear hi149_2 hl149_2
                                        replace p149 := eq_true p149
                                        replace q149 := eq_true q149
                                        go_wp2_with (first | ((with_reducible refine gate_builtin (b := .append) (xs := #[.tmp 101, .tmp 106]) rfl ?_); (try (refine gate_guard (by rfl) ?_; dsimp only)); at_builtin; refine Kd.N_append k65 (w0 := w) w.heap.size rfl (.tmp 101) (.tmp 106) 63 65 (.agg #[(.int .i64 0), (.int .i64 0), (.slice none 0 0)]) 40 rfl Try.underlying63 info65 rfl (by decide) (by omega) u16 x16_4 (⟨(rd_T65 x10_1 x18_4).f0, (rd_T65 x10_1 x18_4).f1, (rd_T65 x10_1 x18_4).f2⟩ : S65) [.int .i64 ((rd_T65 x10_1 x18_4).f0), .int .i64 ((rd_T65 x10_1 x18_4).f1), .slice A149_2 ((rd_T65 x10_1 x18_4).f2).length c149_2] (fun k_ => some k_ ≠ (.slice (some ad149) x10_1.length co34 : Value).ownBlock ∧ some k_ ≠ (.slice (some ad148) t143.length co48 : Value).ownBlock ∧ some k_ ≠ (u17 : Value).ownBlock) (fun k_ => ((fun k_ => some k_ ≠ (.slice (some ad149) x10_1.length co34 : Value).ownBlock ∧ some k_ ≠ (.slice (some ad148) t143.length co48 : Value).ownBlock ∧ some k_ ≠ (u17 : Value).ownBlock)) k_ ∧ some k_ ≠ (u16 : Value).ownBlock) rfl rfl ?aP (fun _ hk => hk) ?aF ?aO ?aB ?aS ?aL ?_; (case aP => exact (k65_mkF _ _ (⟨(rd_T65 x10_1 x18_4).f0, (rd_T65 x10_1 x18_4).f1, (rd_T65 x10_1 x18_4).f2⟩ : S65) (Kd.V_reads' (Kd.V_mono (ok' := (fun k_ => ((fun k_ => some k_ ≠ (.slice (some ad149) x10_1.length co34 : Value).ownBlock ∧ some k_ ≠ (.slice (some ad148) t143.length co48 : Value).ownBlock ∧ some k_ ≠ (u17 : Value).ownBlock)) k_ ∧ some k_ ≠ (u16 : Value).ownBlock)) (HL149_2.out) (fun k_ hk => ⟨⟨hk.2, ⟨hk.1.1, hk.1.2.2⟩⟩, hk.1.2.1⟩))).2.1 (Kd.V_F (Kd.V_mono (ok' := (fun k_ => ((fun k_ => some k_ ≠ (.slice (some ad149) x10_1.length co34 : Value).ownBlock ∧ some k_ ≠ (.slice (some ad148) t143.length co48 : Value).ownBlock ∧ some k_ ≠ (u17 : Value).ownBlock)) k_ ∧ some k_ ≠ (u16 : Value).ownBlock)) (HL149_2.out) (fun k_ hk => ⟨⟨hk.2, ⟨hk.1.1, hk.1.2.2⟩⟩, hk.1.2.1⟩))))); (case aB => exact (by repeat (first | (with_reducible first | exact HB.out | apply below_alloc | apply pw_below_drewN | apply below_drew1) | exact HB.out))); (case aF => exact (fun k_ hk => ⟨Kd.fresh' (Kd.N_lt (by (with_reducible repeat (first | apply Kd.N_alloc | apply Kd.N_drewN | apply Kd.N_drew)); exact HO_10.out)) k_ hk, Kd.fresh' (Kd.N_lt (by (with_reducible repeat (first | apply Kd.N_alloc | apply Kd.N_drewN | apply Kd.N_drew)); exact HO_14.out)) k_ hk, Kd.fresh' (Kd.N_lt (by (with_reducible repeat (first | apply Kd.N_alloc | apply Kd.N_drewN | apply Kd.N_drew)); exact HO_17.out)) k_ hk⟩)); (case aO => exact (by (with_reducible repeat (first | apply Kd.N_alloc | apply Kd.N_drewN | apply Kd.N_drew)); exact HO_16.out)); (case aS => exact (below_size (by repeat (first | (with_reducible first | exact HB.out | apply below_alloc | apply pw_below_drewN | apply below_drew1) | exact HB.out)))); (case aL => have := LMc51.out; omega); intro v151 w53 ho hb hg hat; rw [← Ny150.out] at ho; have n0_ := Aside0.mk (Kd.N_afterv (ok := (fun k_ => some k_ ≠ (.slice (some ad148) t143.length co48 : Value).ownBlock ∧ some k_ ≠ (u17 : Value).ownBlock)) (by (with_reducible repeat (first | apply Kd.N_alloc | apply Kd.N_drewN | apply Kd.N_drew)); exact Kd.N_mono HO_10.out (fun _ hk => by first | exact ⟨⟨hk.1, hk.2.2⟩, hk.2.1⟩ | ((try simp only [and_assoc] at hk); and_intros <;> first | exact hk.1 | exact hk.2.1 | exact hk.2.2.1 | exact hk.2.2.2.1 | exact hk.2.2.2.2.1 | exact hk.2.2.2.2 | exact hk.2.2.2 | exact hk.2.2 | exact hk.2))) hg hat); have n1_ := Aside0.mk (Kd.N_afterv (ok := (fun k_ => some k_ ≠ (.slice (some ad149) x10_1.length co34 : Value).ownBlock ∧ some k_ ≠ (u17 : Value).ownBlock)) (by (with_reducible repeat (first | apply Kd.N_alloc | apply Kd.N_drewN | apply Kd.N_drew)); exact Kd.N_mono HO_14.out (fun _ hk => by first | exact ⟨⟨hk.1, hk.2.2⟩, hk.2.1⟩ | ((try simp only [and_assoc] at hk); and_intros <;> first | exact hk.1 | exact hk.2.1 | exact hk.2.2.1 | exact hk.2.2.2.1 | exact hk.2.2.2.2.1 | exact hk.2.2.2.2 | exact hk.2.2.2 | exact hk.2.2 | exact hk.2))) hg hat); have n2_ := Aside0.mk (Kd.N_afterv (ok := (fun k_ => some k_ ≠ (.slice (some ad149) x10_1.length co34 : Value).ownBlock ∧ some k_ ≠ (.slice (some ad148) t143.length co48 : Value).ownBlock)) (by (with_reducible repeat (first | apply Kd.N_alloc | apply Kd.N_drewN | apply Kd.N_drew)); exact Kd.N_mono HO_17.out (fun _ hk => by first | exact ⟨⟨hk.1, hk.2.1⟩, hk.2.2⟩ | ((try simp only [and_assoc] at hk); and_intros <;> first | exact hk.1 | exact hk.2.1 | exact hk.2.2.1 | exact hk.2.2.2.1 | exact hk.2.2.2.2.1 | exact hk.2.2.2.2 | exact hk.2.2.2 | exact hk.2.2 | exact hk.2))) hg hat); have n3_ := Aside0.mk (Kd.V_afterv (ok := (fun k_ => some k_ ≠ (.slice (some ad149) x10_1.length co34 : Value).ownBlock ∧ some k_ ≠ (.slice (some ad148) t143.length co48 : Value).ownBlock ∧ some k_ ≠ (u17 : Value).ownBlock)) (by (with_reducible repeat (first | apply Kd.V_alloc | apply Kd.V_drewN | apply Kd.V_drew)); exact Kd.V_mono HL148_1.out (fun _ hk => by first | exact ⟨⟨hk.1.1, ⟨hk.2, hk.1.2.2⟩⟩, hk.1.2.1⟩ | ((try simp only [and_assoc] at hk); and_intros <;> first | exact hk.1 | exact hk.2.1 | exact hk.2.2.1 | exact hk.2.2.2.1 | exact hk.2.2.2.2.1 | exact hk.2.2.2.2 | exact hk.2.2.2 | exact hk.2.2 | exact hk.2))) hg hat); have n4_ := Aside0.mk (Kd.V_afterv (ok := (fun k_ => some k_ ≠ (.slice (some ad149) x10_1.length co34 : Value).ownBlock ∧ some k_ ≠ (.slice (some ad148) t143.length co48 : Value).ownBlock ∧ some k_ ≠ (u17 : Value).ownBlock)) (by (with_reducible repeat (first | apply Kd.V_alloc | apply Kd.V_drewN | apply Kd.V_drew)); exact Kd.V_mono HL148_3.out (fun _ hk => by first | exact ⟨⟨hk.1.1, ⟨hk.2, hk.1.2.2⟩⟩, hk.1.2.1⟩ | ((try simp only [and_assoc] at hk); and_intros <;> first | exact hk.1 | exact hk.2.1 | exact hk.2.2.1 | exact hk.2.2.2.1 | exact hk.2.2.2.2.1 | exact hk.2.2.2.2 | exact hk.2.2.2 | exact hk.2.2 | exact hk.2))) hg hat); have n5_ := Aside0.mk (Kd.V_afterv (ok := (fun k_ => some k_ ≠ (.slice (some ad149) x10_1.length co34 : Value).ownBlock ∧ some k_ ≠ (.slice (some ad148) t143.length co48 : Value).ownBlock ∧ some k_ ≠ (u17 : Value).ownBlock)) (by (with_reducible repeat (first | apply Kd.V_alloc | apply Kd.V_drewN | apply Kd.V_drew)); exact Kd.V_mono HL149_2.out (fun _ hk => by first | exact ⟨⟨hk.2, ⟨hk.1.1, hk.1.2.2⟩⟩, hk.1.2.1⟩ | ((try simp only [and_assoc] at hk); and_intros <;> first | exact hk.1 | exact hk.2.1 | exact hk.2.2.1 | exact hk.2.2.2.1 | exact hk.2.2.2.2.1 | exact hk.2.2.2.2 | exact hk.2.2.2 | exact hk.2.2 | exact hk.2))) hg hat); have n6_ := Aside0.mk (hb); have n7_ := Aside0.mk (ho); clear HO_10; clear HO_14; clear HO_17; clear HL148_1; clear HL148_3; clear HL149_2; clear HB; clear HO_16; have HO_10 := n0_; have HO_14 := n1_; have HO_17 := n2_; have HL148_1 := n3_; have HL148_3 := n4_; have HL149_2 := n5_; have HB := n6_; have HO152 := n7_; clear n0_ n1_ n2_ n3_ n4_ n5_ n6_ n7_; clear ho hb hg hat; have p153 : 0 ≤ ((ji44) : Int) := of_decide_eq_true (by first | (with_reducible assumption) | assumption); have q153 : (ji44) < (t143.length : Int) := of_decide_eq_true (by first | (with_reducible assumption) | assumption); obtain ⟨ad153, A153_1, c153_1, A153_3, c153_3, e153, hx153_0, hx153_1, hx153_2, hx153_3, hl153_1, hi153_1, hl153_3, hi153_3⟩ := at_T71 (Kd.N_reads' HO_14.out).2.2 (ji44) p153 q153; obtain rfl : ad148 = ad153 := (by injection e153); obtain ⟨ce153, hce153, hMe153, hcc153⟩ := Kd.N_get HO_14.out z71 (ji44) p153 (by first | exact q153 | exact of_decide_eq_true (by first | (with_reducible assumption) | assumption) | (have e_ := (Kd.N_reads' HO_14.out).1; omega)); obtain ⟨ua153_1, uc153_1, ua153_3, uc153_3, rfl, ul153_1, ge153_1, ul153_3, ge153_3⟩ := k71_openF hMe153; have hv153_1 := hcc153 1 _ rfl; rw [add_field _ _ 1 (by omega)] at hv153_1; replace hv153_1 := Option.some.inj (hv153_1.symm.trans hx153_1); injection hv153_1 with hva_ hvn_ hvc_; rw [hva_] at ge153_1; rw [hvc_] at ul153_1; have HL153_1 := Aside0.mk (show Kd.V k82 82 _ w.heap.size _ _ ((rd_T71 t143 (ji44)).f1) from Kd.V_mk ul153_1 ge153_1); clear hva_ hvn_ hvc_ ge153_1 ul153_1; have hv153_3 := hcc153 3 _ rfl; rw [add_field _ _ 3 (by omega)] at hv153_3; replace hv153_3 := Option.some.inj (hv153_3.symm.trans hx153_3); injection hv153_3 with hva_ hvn_ hvc_; rw [hva_] at ge153_3; rw [hvc_] at ul153_3; have HL153_3 := Aside0.mk (show Kd.V (Kd.int .u8) 5 _ w.heap.size _ _ ((rd_T71 t143 (ji44)).f3) from Kd.V_mk ul153_3 ge153_3); clear hva_ hvn_ hvc_ ge153_3 ul153_3; clear hcc153 hce153; have HR153_1 := Aside0.mk hi153_1; have HC153_1 := Aside0.mk hl153_1; clear hi153_1 hl153_1; have HR153_3 := Aside0.mk hi153_3; have HC153_3 := Aside0.mk hl153_3; clear hi153_3 hl153_3; replace p153 := eq_true p153; replace q153 := eq_true q153) | ((with_reducible refine gate_builtin (b := .append) (xs := #[.tmp 108, .tmp 114]) rfl ?_); (try (refine gate_guard (by rfl) ?_; dsimp only)); at_builtin; refine Kd.N_append k71 (w0 := w) w.heap.size rfl (.tmp 108) (.tmp 114) 66 71 (.agg #[(.int .i64 0), (.slice none 0 0), (.bool false), (.slice none 0 0)]) 64 rfl Try.underlying66 info71 rfl (by decide) (by omega) u17 x17_4 (⟨(rd_T71 t143 (ji44)).f0, (rd_T71 t143 (ji44)).f1, (rd_T71 t143 (ji44)).f2, (rd_T71 t143 (ji44)).f3⟩ : S71) [.int .i64 ((rd_T71 t143 (ji44)).f0), .slice A153_1 ((rd_T71 t143 (ji44)).f1).length c153_1, .bool ((rd_T71 t143 (ji44)).f2), .slice A153_3 ((rd_T71 t143 (ji44)).f3).length c153_3] (fun k_ => some k_ ≠ (.slice (some ad149) x10_1.length co34 : Value).ownBlock ∧ some k_ ≠ (.slice (some ad148) t143.length co48 : Value).ownBlock ∧ some k_ ≠ (v151 : Value).ownBlock) (fun k_ => ((fun k_ => some k_ ≠ (.slice (some ad149) x10_1.length co34 : Value).ownBlock ∧ some k_ ≠ (.slice (some ad148) t143.length co48 : Value).ownBlock ∧ some k_ ≠ (v151 : Value).ownBlock)) k_ ∧ some k_ ≠ (u17 : Value).ownBlock) rfl rfl ?aP (fun _ hk => hk) ?aF ?aO ?aB ?aS ?aL ?_; (case aP => exact (k71_mkF _ _ (⟨(rd_T71 t143 (ji44)).f0, (rd_T71 t143 (ji44)).f1, (rd_T71 t143 (ji44)).f2, (rd_T71 t143 (ji44)).f3⟩ : S71) (Kd.V_reads' (Kd.V_mono (ok' := (fun k_ => ((fun k_ => some k_ ≠ (.slice (some ad149) x10_1.length co34 : Value).ownBlock ∧ some k_ ≠ (.slice (some ad148) t143.length co48 : Value).ownBlock ∧ some k_ ≠ (v151 : Value).ownBlock)) k_ ∧ some k_ ≠ (u17 : Value).ownBlock)) (HL153_1.out) (fun k_ hk => ⟨⟨hk.1.1.1, ⟨hk.2, hk.1.2⟩⟩, hk.1.1.2⟩))).2.1 (Kd.V_F (Kd.V_mono (ok' := (fun k_ => ((fun k_ => some k_ ≠ (.slice (some ad149) x10_1.length co34 : Value).ownBlock ∧ some k_ ≠ (.slice (some ad148) t143.length co48 : Value).ownBlock ∧ some k_ ≠ (v151 : Value).ownBlock)) k_ ∧ some k_ ≠ (u17 : Value).ownBlock)) (HL153_1.out) (fun k_ hk => ⟨⟨hk.1.1.1, ⟨hk.2, hk.1.2⟩⟩, hk.1.1.2⟩))) (Kd.V_reads' (Kd.V_mono (ok' := (fun k_ => ((fun k_ => some k_ ≠ (.slice (some ad149) x10_1.length co34 : Value).ownBlock ∧ some k_ ≠ (.slice (some ad148) t143.length co48 : Value).ownBlock ∧ some k_ ≠ (v151 : Value).ownBlock)) k_ ∧ some k_ ≠ (u17 : Value).ownBlock)) (HL153_3.out) (fun k_ hk => ⟨⟨hk.1.1.1, ⟨hk.2, hk.1.2⟩⟩, hk.1.1.2⟩))).2.1 (Kd.V_F (Kd.V_mono (ok' := (fun k_ => ((fun k_ => some k_ ≠ (.slice (some ad149) x10_1.length co34 : Value).ownBlock ∧ some k_ ≠ (.slice (some ad148) t143.length co48 : Value).ownBlock ∧ some k_ ≠ (v151 : Value).ownBlock)) k_ ∧ some k_ ≠ (u17 : Value).ownBlock)) (HL153_3.out) (fun k_ hk => ⟨⟨hk.1.1.1, ⟨hk.2, hk.1.2⟩⟩, hk.1.1.2⟩))))); (case aB => exact (by repeat (first | (with_reducible first | exact HB.out | apply below_alloc | apply pw_below_drewN | apply below_drew1) | exact HB.out))); (case aF => exact (fun k_ hk => ⟨Kd.fresh' (Kd.N_lt (by (with_reducible repeat (first | apply Kd.N_alloc | apply Kd.N_drewN | apply Kd.N_drew)); exact HO_10.out)) k_ hk, Kd.fresh' (Kd.N_lt (by (with_reducible repeat (first | apply Kd.N_alloc | apply Kd.N_drewN | apply Kd.N_drew)); exact HO_14.out)) k_ hk, Kd.fresh' (Kd.N_lt (by (with_reducible repeat (first | apply Kd.N_alloc | apply Kd.N_drewN | apply Kd.N_drew)); exact HO152.out)) k_ hk⟩)); (case aO => exact (by (with_reducible repeat (first | apply Kd.N_alloc | apply Kd.N_drewN | apply Kd.N_drew)); exact Kd.N_mono HO_17.out (fun _ hk => by first | exact ⟨hk.1.1, ⟨hk.1.2, hk.2⟩⟩ | ((try simp only [and_assoc] at hk); and_intros <;> first | exact hk.1 | exact hk.2.1 | exact hk.2.2.1 | exact hk.2.2.2.1 | exact hk.2.2.2.2.1 | exact hk.2.2.2.2 | exact hk.2.2.2 | exact hk.2.2 | exact hk.2)))); (case aS => exact (below_size (by repeat (first | (with_reducible first | exact HB.out | apply below_alloc | apply pw_below_drewN | apply below_drew1) | exact HB.out)))); (case aL => have := LMc52.out; omega); intro v155 w54 ho hb hg hat; rw [← Ny154.out] at ho; have n0_ := Aside0.mk (Kd.N_afterv (ok := (fun k_ => some k_ ≠ (.slice (some ad148) t143.length co48 : Value).ownBlock ∧ some k_ ≠ (v151 : Value).ownBlock)) (by (with_reducible repeat (first | apply Kd.N_alloc | apply Kd.N_drewN | apply Kd.N_drew)); exact Kd.N_mono HO_10.out (fun _ hk => by first | exact ⟨⟨hk.1.1, hk.2⟩, hk.1.2⟩ | ((try simp only [and_assoc] at hk); and_intros <;> first | exact hk.1 | exact hk.2.1 | exact hk.2.2.1 | exact hk.2.2.2.1 | exact hk.2.2.2.2.1 | exact hk.2.2.2.2 | exact hk.2.2.2 | exact hk.2.2 | exact hk.2))) hg hat); have n1_ := Aside0.mk (Kd.N_afterv (ok := (fun k_ => some k_ ≠ (.slice (some ad149) x10_1.length co34 : Value).ownBlock ∧ some k_ ≠ (v151 : Value).ownBlock)) (by (with_reducible repeat (first | apply Kd.N_alloc | apply Kd.N_drewN | apply Kd.N_drew)); exact Kd.N_mono HO_14.out (fun _ hk => by first | exact ⟨⟨hk.1.1, hk.2⟩, hk.1.2⟩ | ((try simp only [and_assoc] at hk); and_intros <;> first | exact hk.1 | exact hk.2.1 | exact hk.2.2.1 | exact hk.2.2.2.1 | exact hk.2.2.2.2.1 | exact hk.2.2.2.2 | exact hk.2.2.2 | exact hk.2.2 | exact hk.2))) hg hat); have n2_ := Aside0.mk (Kd.V_afterv (ok := (fun k_ => some k_ ≠ (.slice (some ad149) x10_1.length co34 : Value).ownBlock ∧ some k_ ≠ (.slice (some ad148) t143.length co48 : Value).ownBlock ∧ some k_ ≠ (v151 : Value).ownBlock)) (by (with_reducible repeat (first | apply Kd.V_alloc | apply Kd.V_drewN | apply Kd.V_drew)); exact Kd.V_mono HL148_1.out (fun _ hk => by first | exact ⟨⟨hk.1.1, ⟨hk.1.2.1, hk.2⟩⟩, hk.1.2.2⟩ | ((try simp only [and_assoc] at hk); and_intros <;> first | exact hk.1 | exact hk.2.1 | exact hk.2.2.1 | exact hk.2.2.2.1 | exact hk.2.2.2.2.1 | exact hk.2.2.2.2 | exact hk.2.2.2 | exact hk.2.2 | exact hk.2))) hg hat); have n3_ := Aside0.mk (Kd.V_afterv (ok := (fun k_ => some k_ ≠ (.slice (some ad149) x10_1.length co34 : Value).ownBlock ∧ some k_ ≠ (.slice (some ad148) t143.length co48 : Value).ownBlock ∧ some k_ ≠ (v151 : Value).ownBlock)) (by (with_reducible repeat (first | apply Kd.V_alloc | apply Kd.V_drewN | apply Kd.V_drew)); exact Kd.V_mono HL148_3.out (fun _ hk => by first | exact ⟨⟨hk.1.1, ⟨hk.1.2.1, hk.2⟩⟩, hk.1.2.2⟩ | ((try simp only [and_assoc] at hk); and_intros <;> first | exact hk.1 | exact hk.2.1 | exact hk.2.2.1 | exact hk.2.2.2.1 | exact hk.2.2.2.2.1 | exact hk.2.2.2.2 | exact hk.2.2.2 | exact hk.2.2 | exact hk.2))) hg hat); have n4_ := Aside0.mk (Kd.V_afterv (ok := (fun k_ => some k_ ≠ (.slice (some ad149) x10_1.length co34 : Value).ownBlock ∧ some k_ ≠ (.slice (some ad148) t143.length co48 : Value).ownBlock ∧ some k_ ≠ (v151 : Value).ownBlock)) (by (with_reducible repeat (first | apply Kd.V_alloc | apply Kd.V_drewN | apply Kd.V_drew)); exact Kd.V_mono HL149_2.out (fun _ hk => by first | exact ⟨⟨hk.1.1, ⟨hk.1.2.1, hk.2⟩⟩, hk.1.2.2⟩ | ((try simp only [and_assoc] at hk); and_intros <;> first | exact hk.1 | exact hk.2.1 | exact hk.2.2.1 | exact hk.2.2.2.1 | exact hk.2.2.2.2.1 | exact hk.2.2.2.2 | exact hk.2.2.2 | exact hk.2.2 | exact hk.2))) hg hat); have n5_ := Aside0.mk (Kd.N_afterv (ok := (fun k_ => some k_ ≠ (.slice (some ad149) x10_1.length co34 : Value).ownBlock ∧ some k_ ≠ (.slice (some ad148) t143.length co48 : Value).ownBlock)) (by (with_reducible repeat (first | apply Kd.N_alloc | apply Kd.N_drewN | apply Kd.N_drew)); exact Kd.N_mono HO152.out (fun _ hk => by first | exact ⟨⟨hk.1, hk.2.1⟩, hk.2.2⟩ | ((try simp only [and_assoc] at hk); and_intros <;> first | exact hk.1 | exact hk.2.1 | exact hk.2.2.1 | exact hk.2.2.2.1 | exact hk.2.2.2.2.1 | exact hk.2.2.2.2 | exact hk.2.2.2 | exact hk.2.2 | exact hk.2))) hg hat); have n6_ := Aside0.mk (Kd.V_afterv (ok := (fun k_ => some k_ ≠ (.slice (some ad149) x10_1.length co34 : Value).ownBlock ∧ some k_ ≠ (.slice (some ad148) t143.length co48 : Value).ownBlock ∧ some k_ ≠ (v151 : Value).ownBlock)) (by (with_reducible repeat (first | apply Kd.V_alloc | apply Kd.V_drewN | apply Kd.V_drew)); exact Kd.V_mono HL153_1.out (fun _ hk => by first | exact ⟨⟨hk.1.1.1, ⟨hk.2, hk.1.2⟩⟩, hk.1.1.2⟩ | ((try simp only [and_assoc] at hk); and_intros <;> first | exact hk.1 | exact hk.2.1 | exact hk.2.2.1 | exact hk.2.2.2.1 | exact hk.2.2.2.2.1 | exact hk.2.2.2.2 | exact hk.2.2.2 | exact hk.2.2 | exact hk.2))) hg hat); have n7_ := Aside0.mk (Kd.V_afterv (ok := (fun k_ => some k_ ≠ (.slice (some ad149) x10_1.length co34 : Value).ownBlock ∧ some k_ ≠ (.slice (some ad148) t143.length co48 : Value).ownBlock ∧ some k_ ≠ (v151 : Value).ownBlock)) (by (with_reducible repeat (first | apply Kd.V_alloc | apply Kd.V_drewN | apply Kd.V_drew)); exact Kd.V_mono HL153_3.out (fun _ hk => by first | exact ⟨⟨hk.1.1.1, ⟨hk.2, hk.1.2⟩⟩, hk.1.1.2⟩ | ((try simp only [and_assoc] at hk); and_intros <;> first | exact hk.1 | exact hk.2.1 | exact hk.2.2.1 | exact hk.2.2.2.1 | exact hk.2.2.2.2.1 | exact hk.2.2.2.2 | exact hk.2.2.2 | exact hk.2.2 | exact hk.2))) hg hat); have n8_ := Aside0.mk (hb); have n9_ := Aside0.mk (ho); clear HO_10; clear HO_14; clear HL148_1; clear HL148_3; clear HL149_2; clear HO152; clear HL153_1; clear HL153_3; clear HB; clear HO_17; have HO_10 := n0_; have HO_14 := n1_; have HL148_1 := n2_; have HL148_3 := n3_; have HL149_2 := n4_; have HO152 := n5_; have HL153_1 := n6_; have HL153_3 := n7_; have HB := n8_; have HO156 := n9_; clear n0_ n1_ n2_ n3_ n4_ n5_ n6_ n7_ n8_ n9_; clear ho hb hg hat))
                                        (first | go_meet | ((try subst hji44); go_meet))
                                        case rel => exact ⟨_, (y150), (y154), H', ⟨by have := HK1.out; have := HJ7.out; have := HJ31.out; have := HK4.out; first | omega | exact Nat.le_refl _⟩, ⟨by (with_reducible repeat (first | apply Kd.N_alloc | apply Kd.N_drewN | apply Kd.N_drew)); exact Kd.N_mono HO_10.out (fun _ hk => by first | exact ⟨hk.1.1, ⟨hk.1.2, hk.2⟩⟩ | ((try simp only [and_assoc] at hk); and_intros <;> first | exact hk.1 | exact hk.2.1 | exact hk.2.2.1 | exact hk.2.2.2.1 | exact hk.2.2.2.2.1 | exact hk.2.2.2.2 | exact hk.2.2.2 | exact hk.2.2 | exact hk.2))⟩, ⟨by (with_reducible repeat (first | apply Kd.N_alloc | apply Kd.N_drewN | apply Kd.N_drew)); exact Kd.N_mono HO_14.out (fun _ hk => by first | exact ⟨hk.1.1, ⟨hk.1.2, hk.2⟩⟩ | ((try simp only [and_assoc] at hk); and_intros <;> first | exact hk.1 | exact hk.2.1 | exact hk.2.2.1 | exact hk.2.2.2.1 | exact hk.2.2.2.2.1 | exact hk.2.2.2.2 | exact hk.2.2.2 | exact hk.2.2 | exact hk.2))⟩, ⟨by (with_reducible repeat (first | apply Kd.N_alloc | apply Kd.N_drewN | apply Kd.N_drew)); exact Kd.N_mono HO152.out (fun _ hk => by first | exact ⟨hk.1.1, ⟨hk.1.2, hk.2⟩⟩ | ((try simp only [and_assoc] at hk); and_intros <;> first | exact hk.1 | exact hk.2.1 | exact hk.2.2.1 | exact hk.2.2.2.1 | exact hk.2.2.2.2.1 | exact hk.2.2.2.2 | exact hk.2.2.2 | exact hk.2.2 | exact hk.2))⟩, ⟨by (with_reducible repeat (first | apply Kd.N_alloc | apply Kd.N_drewN | apply Kd.N_drew)); exact HO156.out⟩, ⟨by repeat (first | (with_reducible first | exact HB.out | apply below_alloc | apply pw_below_drewN | apply below_drew1) | exact HB.out)⟩⟩
                                      · rw [if_neg c52] at H
                                        exact absurd H (by simp)
                                    · rw [if_neg c51] at H
                                      exact absurd H (by simp)
                                  · rw [if_neg c50] at H
                                    exact absurd H (by simp)
                                · rw [if_neg c49] at H
                                  have c49b0 : (((rd_T71 t143 (ji44)).f0) == 0) = false := beq_eq_false_iff_ne.mpr c49
                                  have c49b1 : (((rd_T71 t143 (ji44)).f0) != 0) = true := bne_iff_ne.mpr c49
                                  (first | rw [c49b0] | (simp only [i64_w, i32_w]; rw [c49b0]) | rw [c49b1] | skip)
                                  have H' := Aside0.mk H
                                  clear H
                                  go_wp2
                                  (first | go_meet | ((try subst hji44); go_meet))
                                  case rel => exact ⟨_, (x16_4), (x17_4), H', ⟨by have := HK1.out; have := HJ7.out; have := HJ31.out; have := HK4.out; first | omega | exact Nat.le_refl _⟩, ⟨by (with_reducible repeat (first | apply Kd.N_alloc | apply Kd.N_drewN | apply Kd.N_drew)); exact HO_10.out⟩, ⟨by (with_reducible repeat (first | apply Kd.N_alloc | apply Kd.N_drewN | apply Kd.N_drew)); exact HO_14.out⟩, ⟨by (with_reducible repeat (first | apply Kd.N_alloc | apply Kd.N_drewN | apply Kd.N_drew)); exact HO_16.out⟩, ⟨by (with_reducible repeat (first | apply Kd.N_alloc | apply Kd.N_drewN | apply Kd.N_drew)); exact HO_17.out⟩, ⟨by repeat (first | (with_reducible first | exact HB.out | apply below_alloc | apply pw_below_drewN | apply below_drew1) | exact HB.out)⟩⟩
                              case rest =>
                                clear HC47
                                try clear c1
                                try clear p1
                                try clear q1
                                try clear hx1
                                try clear qi1
                                try clear c2
                                try clear p2
                                try clear q2
                                try clear c3
                                try clear c4
                                try clear c5
                                try clear p6
                                try clear c9
                                try clear c9b0
                                try clear c9b1
                                try clear c10
                                try clear c11
                                try clear c11b0
                                try clear c12
                                try clear c12b0
                                try clear p12
                                try clear q12
                                try clear hx12
                                try clear c13
                                try clear c14
                                try clear c14b0
                                try clear p14
                                try clear q14
                                try clear hx14
                                try clear qi14
                                try clear c15
                                try clear p15
                                try clear q15
                                try clear hx15
                                try clear c17
                                try clear c17b0
                                try clear c17b1
                                try clear c18
                                try clear c18b0
                                try clear c18b1
                                try clear c19
                                try clear c19b0
                                try clear c19b1
                                try clear c20
                                try clear c21
                                try clear c23
                                try clear q23
                                try clear c26
                                try clear c27
                                try clear c29
                                try clear c30
                                try clear c37
                                try clear c37b0
                                try clear c37b1
                                try clear c38
                                try clear c38b0
                                try clear c38b1
                                try clear c39
                                try clear c39b0
                                try clear c39b1
                                try clear c42
                                try clear c43
                                try clear c43b0
                                try clear c45
                                try clear c45b0
                                try clear c46
                                try clear c46b0
                                try clear c49
                                try clear c49b0
                                try clear c49b1
                                try clear c50
                                try clear c50b0
                                try clear c51
                                try clear c52
                                try clear hx124_0
                                try clear hx147_0
                                try clear hx147_1
                                try clear hx147_2
                                try clear hx147_3
                                try clear hx148_0
                                try clear hx148_1
                                try clear hx148_2
                                try clear hx148_3
                                try clear hx149_0
                                try clear hx149_1
                                try clear hx149_2
                                try clear hx153_0
                                try clear hx153_1
                                try clear hx153_2
                                try clear hx153_3
                                try clear p1
                                try clear p12
                                try clear p124
                                try clear p14
                                try clear p147
                                try clear p148
                                try clear p149
                                try clear p153
                                try clear p2
                                try clear p6
                                try clear q023
                                try clear q1
                                try clear q12
                                try clear q124
                                try clear q14
                                try clear q147
                                try clear q148
                                try clear q149
                                try clear q153
                                try clear q2
                                try clear q23
                                obtain ⟨kq, x16_46, x17_46, HA, HJ46, HO_10, HO_14, HO_16, HO_17, HB⟩ := hcut
                                cases kq with
                                | zero => exact absurd HA.out (by simp [packthreadkeep_FetchStill.j4])
                                | succ kj46 =>
                                  have H := HA.out
                                  clear HA
                                  simp only [packthreadkeep_FetchStill.j4] at H
                                  by_cases c55 : x18_4 < (l3.length : Int)
                                  · rw [if_pos c55] at H
                                    have c55b0 : decide (x18_4 < (l3.length : Int)) = true := decide_eq_true c55
                                    clear c55
                                    by_cases c56 : 0 ≤ x18_4
                                    · rw [if_pos c56] at H
                                      have c56b0 : decide (0 ≤ x18_4) = true := decide_eq_true c56
                                      clear c56
                                      replace H := Option.bind_eq_some_iff.mp H
                                      obtain ⟨t158, A570, H⟩ := H
                                      replace H : (if x16_46.length < 3518437208883 then (if x17_46.length < 2199023255552 then (packthreadkeep_FetchStill.l1 kj46 l3 x10_1 t143 (x16_46 ++ [(⟨wrap64 (1 + t158), 100, ([] : List Int)⟩ : S65)]) (x17_46 ++ [(⟨7, ([] : List (S82)), false, ([] : List Int)⟩ : S71)]) (wrap64 (x18_4 + 1))) else (none)) else (none)) = some r := H
                                      have A57 := Aside0.mk A570
                                      clear A570
                                      by_cases c58 : x16_46.length < 3518437208883
                                      · rw [if_pos c58] at H
                                        have LMc58 := Aside0.mk c58
                                        clear c58
                                        obtain ⟨y159, hy159⟩ : ∃ y_ : List (S65), y_ = (x16_46 ++ [(⟨wrap64 (1 + t158), 100, ([] : List Int)⟩ : S65)]) := ⟨_, rfl⟩
                                        replace H : (if x17_46.length < 2199023255552 then (packthreadkeep_FetchStill.l1 kj46 l3 x10_1 t143 y159 (x17_46 ++ [(⟨7, ([] : List (S82)), false, ([] : List Int)⟩ : S71)]) (wrap64 (x18_4 + 1))) else (none)) = some r := by first | (rw [hy159]; with_reducible exact H) | (have H2_ := (Option.bind_some _ _).symm.trans H; rw [hy159]; with_reducible exact H2_) | (have H2_ := (Option.bind_some _ _).symm.trans H; with_reducible exact H2_) | with_reducible exact H | (rw [hy159]; exact H) | exact H
                                        have Ny159 := Aside0.mk hy159
                                        clear hy159
                                        by_cases c59 : x17_46.length < 2199023255552
                                        · rw [if_pos c59] at H
                                          have LMc59 := Aside0.mk c59
                                          clear c59
                                          obtain ⟨y162, hy162⟩ : ∃ y_ : List (S71), y_ = (x17_46 ++ [(⟨7, ([] : List (S82)), false, ([] : List Int)⟩ : S71)]) := ⟨_, rfl⟩
                                          replace H : (packthreadkeep_FetchStill.l1 kj46 l3 x10_1 t143 y159 y162 (wrap64 (x18_4 + 1))) = some r := by first | (rw [hy162]; with_reducible exact H) | (have H2_ := (Option.bind_some _ _).symm.trans H; rw [hy162]; with_reducible exact H2_) | (have H2_ := (Option.bind_some _ _).symm.trans H; with_reducible exact H2_) | with_reducible exact H | (rw [hy162]; exact H) | exact H
                                          have Ny162 := Aside0.mk hy162
                                          clear hy162
                                          have H' := Aside0.mk H
                                          clear H
                                          have p157 : 0 ≤ (x18_4 : Int) := of_decide_eq_true (by first | (with_reducible assumption) | assumption)
                                          have q157 : x18_4 < (l3.length : Int) := of_decide_eq_true (by first | (with_reducible assumption) | assumption)
                                          obtain ⟨ad157, e157, hx157_0⟩ := Kd.at_int HR3.out x18_4 p157 q157
                                          cases e157
                                          replace hx157_0 := (HB.out.cell (World.block_lt_of_cell? w _ hx157_0)).trans hx157_0
                                          replace p157 := eq_true p157
                                          replace q157 := eq_true q157
                                          go_wp2_with (first | ((with_reducible refine gate_callee (f := 14) rfl ?_); refine goesL_ (some 125) rfl rfl Try.func14 (by kernel_rfl) rfl #[.int .i64 (rd l3 x18_4), .int .i64 99] rfl (by (try simp only [List.map_toArray, List.map_cons, List.map_nil]); first | done | rfl | (simp only [List.length_drop, List.length_take]; rfl)) ?_; (with_reducible refine (packthreadkeep_Picked.calls (rd l3 x18_4) 99 t158 _ A57.out).mono ?_); rintro e w' ⟨rfl, ⟨nd, rfl⟩⟩; refine ⟨_, rfl, ?_⟩) | ((with_reducible refine gate_builtin (b := .append) (xs := #[.tmp 120, .tmp 128]) rfl ?_); (try (refine gate_guard (by rfl) ?_; dsimp only)); at_builtin; refine Kd.N_append k65 (w0 := w) w.heap.size rfl (.tmp 120) (.tmp 128) 63 65 (.agg #[(.int .i64 0), (.int .i64 0), (.slice none 0 0)]) 40 rfl Try.underlying63 info65 rfl (by decide) (by omega) u16 x16_46 (⟨wrap64 (1 + t158), 100, ([] : List Int)⟩ : S65) [.int .i64 (wrap64 (1 + t158)), .int .i64 100, .slice none 0 0] (fun k_ => some k_ ≠ (.slice Ao34 x10_1.length co34 : Value).ownBlock ∧ some k_ ≠ (.slice (some ad148) t143.length co48 : Value).ownBlock ∧ some k_ ≠ (u17 : Value).ownBlock) (fun k_ => ((fun k_ => some k_ ≠ (.slice Ao34 x10_1.length co34 : Value).ownBlock ∧ some k_ ≠ (.slice (some ad148) t143.length co48 : Value).ownBlock ∧ some k_ ≠ (u17 : Value).ownBlock)) k_ ∧ some k_ ≠ (u16 : Value).ownBlock) rfl rfl ?aP (fun _ hk => hk) ?aF ?aO ?aB ?aS ?aL ?_; (case aP => exact (k65_mkF _ _ (⟨wrap64 (1 + t158), 100, ([] : List Int)⟩ : S65) (Nat.le_refl _) (Kd.F_nil _ _ _))); (case aB => exact (by repeat (first | (with_reducible first | exact HB.out | apply below_alloc | apply pw_below_drewN | apply below_drew1) | exact HB.out))); (case aF => exact (fun k_ hk => ⟨Kd.fresh' (Kd.N_lt (by (with_reducible repeat (first | apply Kd.N_alloc | apply Kd.N_drewN | apply Kd.N_drew)); exact HO_10.out)) k_ hk, Kd.fresh' (Kd.N_lt (by (with_reducible repeat (first | apply Kd.N_alloc | apply Kd.N_drewN | apply Kd.N_drew)); exact HO_14.out)) k_ hk, Kd.fresh' (Kd.N_lt (by (with_reducible repeat (first | apply Kd.N_alloc | apply Kd.N_drewN | apply Kd.N_drew)); exact HO_17.out)) k_ hk⟩)); (case aO => exact (by (with_reducible repeat (first | apply Kd.N_alloc | apply Kd.N_drewN | apply Kd.N_drew)); exact HO_16.out)); (case aS => exact (below_size (by repeat (first | (with_reducible first | exact HB.out | apply below_alloc | apply pw_below_drewN | apply below_drew1) | exact HB.out)))); (case aL => have := LMc58.out; omega); intro v160 w60 ho hb hg hat; rw [← Ny159.out] at ho; have n0_ := Aside0.mk (Kd.N_afterv (ok := (fun k_ => some k_ ≠ (.slice (some ad148) t143.length co48 : Value).ownBlock ∧ some k_ ≠ (u17 : Value).ownBlock)) (by (with_reducible repeat (first | apply Kd.N_alloc | apply Kd.N_drewN | apply Kd.N_drew)); exact Kd.N_mono HO_10.out (fun _ hk => by first | exact ⟨⟨hk.1, hk.2.2⟩, hk.2.1⟩ | ((try simp only [and_assoc] at hk); and_intros <;> first | exact hk.1 | exact hk.2.1 | exact hk.2.2.1 | exact hk.2.2.2.1 | exact hk.2.2.2.2.1 | exact hk.2.2.2.2 | exact hk.2.2.2 | exact hk.2.2 | exact hk.2))) hg hat); have n1_ := Aside0.mk (Kd.N_afterv (ok := (fun k_ => some k_ ≠ (.slice Ao34 x10_1.length co34 : Value).ownBlock ∧ some k_ ≠ (u17 : Value).ownBlock)) (by (with_reducible repeat (first | apply Kd.N_alloc | apply Kd.N_drewN | apply Kd.N_drew)); exact Kd.N_mono HO_14.out (fun _ hk => by first | exact ⟨⟨hk.1, hk.2.2⟩, hk.2.1⟩ | ((try simp only [and_assoc] at hk); and_intros <;> first | exact hk.1 | exact hk.2.1 | exact hk.2.2.1 | exact hk.2.2.2.1 | exact hk.2.2.2.2.1 | exact hk.2.2.2.2 | exact hk.2.2.2 | exact hk.2.2 | exact hk.2))) hg hat); have n2_ := Aside0.mk (Kd.N_afterv (ok := (fun k_ => some k_ ≠ (.slice Ao34 x10_1.length co34 : Value).ownBlock ∧ some k_ ≠ (.slice (some ad148) t143.length co48 : Value).ownBlock)) (by (with_reducible repeat (first | apply Kd.N_alloc | apply Kd.N_drewN | apply Kd.N_drew)); exact Kd.N_mono HO_17.out (fun _ hk => by first | exact ⟨⟨hk.1, hk.2.1⟩, hk.2.2⟩ | ((try simp only [and_assoc] at hk); and_intros <;> first | exact hk.1 | exact hk.2.1 | exact hk.2.2.1 | exact hk.2.2.2.1 | exact hk.2.2.2.2.1 | exact hk.2.2.2.2 | exact hk.2.2.2 | exact hk.2.2 | exact hk.2))) hg hat); have n3_ := Aside0.mk (hb); have n4_ := Aside0.mk (ho); clear HO_10; clear HO_14; clear HO_17; clear HB; clear HO_16; have HO_10 := n0_; have HO_14 := n1_; have HO_17 := n2_; have HB := n3_; have HO161 := n4_; clear n0_ n1_ n2_ n3_ n4_; clear ho hb hg hat) | ((with_reducible refine gate_builtin (b := .append) (xs := #[.tmp 130, .tmp 132]) rfl ?_); (try (refine gate_guard (by rfl) ?_; dsimp only)); at_builtin; refine Kd.N_append k71 (w0 := w) w.heap.size rfl (.tmp 130) (.tmp 132) 66 71 (.agg #[(.int .i64 0), (.slice none 0 0), (.bool false), (.slice none 0 0)]) 64 rfl Try.underlying66 info71 rfl (by decide) (by omega) u17 x17_46 (⟨7, ([] : List (S82)), false, ([] : List Int)⟩ : S71) [.int .i64 7, .slice none 0 0, .bool false, .slice none 0 0] (fun k_ => some k_ ≠ (.slice Ao34 x10_1.length co34 : Value).ownBlock ∧ some k_ ≠ (.slice (some ad148) t143.length co48 : Value).ownBlock ∧ some k_ ≠ (v160 : Value).ownBlock) (fun k_ => ((fun k_ => some k_ ≠ (.slice Ao34 x10_1.length co34 : Value).ownBlock ∧ some k_ ≠ (.slice (some ad148) t143.length co48 : Value).ownBlock ∧ some k_ ≠ (v160 : Value).ownBlock)) k_ ∧ some k_ ≠ (u17 : Value).ownBlock) rfl rfl ?aP (fun _ hk => hk) ?aF ?aO ?aB ?aS ?aL ?_; (case aP => exact (k71_mkF _ _ (⟨7, ([] : List (S82)), false, ([] : List Int)⟩ : S71) (Nat.le_refl _) (Kd.F_nil _ _ _) (Nat.le_refl _) (Kd.F_nil _ _ _))); (case aB => exact (by repeat (first | (with_reducible first | exact HB.out | apply below_alloc | apply pw_below_drewN | apply below_drew1) | exact HB.out))); (case aF => exact (fun k_ hk => ⟨Kd.fresh' (Kd.N_lt (by (with_reducible repeat (first | apply Kd.N_alloc | apply Kd.N_drewN | apply Kd.N_drew)); exact HO_10.out)) k_ hk, Kd.fresh' (Kd.N_lt (by (with_reducible repeat (first | apply Kd.N_alloc | apply Kd.N_drewN | apply Kd.N_drew)); exact HO_14.out)) k_ hk, Kd.fresh' (Kd.N_lt (by (with_reducible repeat (first | apply Kd.N_alloc | apply Kd.N_drewN | apply Kd.N_drew)); exact HO161.out)) k_ hk⟩)); (case aO => exact (by (with_reducible repeat (first | apply Kd.N_alloc | apply Kd.N_drewN | apply Kd.N_drew)); exact Kd.N_mono HO_17.out (fun _ hk => by first | exact ⟨hk.1.1, ⟨hk.1.2, hk.2⟩⟩ | ((try simp only [and_assoc] at hk); and_intros <;> first | exact hk.1 | exact hk.2.1 | exact hk.2.2.1 | exact hk.2.2.2.1 | exact hk.2.2.2.2.1 | exact hk.2.2.2.2 | exact hk.2.2.2 | exact hk.2.2 | exact hk.2)))); (case aS => exact (below_size (by repeat (first | (with_reducible first | exact HB.out | apply below_alloc | apply pw_below_drewN | apply below_drew1) | exact HB.out)))); (case aL => have := LMc59.out; omega); intro v163 w61 ho hb hg hat; rw [← Ny162.out] at ho; have n0_ := Aside0.mk (Kd.N_afterv (ok := (fun k_ => some k_ ≠ (.slice (some ad148) t143.length co48 : Value).ownBlock ∧ some k_ ≠ (v160 : Value).ownBlock)) (by (with_reducible repeat (first | apply Kd.N_alloc | apply Kd.N_drewN | apply Kd.N_drew)); exact Kd.N_mono HO_10.out (fun _ hk => by first | exact ⟨⟨hk.1.1, hk.2⟩, hk.1.2⟩ | ((try simp only [and_assoc] at hk); and_intros <;> first | exact hk.1 | exact hk.2.1 | exact hk.2.2.1 | exact hk.2.2.2.1 | exact hk.2.2.2.2.1 | exact hk.2.2.2.2 | exact hk.2.2.2 | exact hk.2.2 | exact hk.2))) hg hat); have n1_ := Aside0.mk (Kd.N_afterv (ok := (fun k_ => some k_ ≠ (.slice Ao34 x10_1.length co34 : Value).ownBlock ∧ some k_ ≠ (v160 : Value).ownBlock)) (by (with_reducible repeat (first | apply Kd.N_alloc | apply Kd.N_drewN | apply Kd.N_drew)); exact Kd.N_mono HO_14.out (fun _ hk => by first | exact ⟨⟨hk.1.1, hk.2⟩, hk.1.2⟩ | ((try simp only [and_assoc] at hk); and_intros <;> first | exact hk.1 | exact hk.2.1 | exact hk.2.2.1 | exact hk.2.2.2.1 | exact hk.2.2.2.2.1 | exact hk.2.2.2.2 | exact hk.2.2.2 | exact hk.2.2 | exact hk.2))) hg hat); have n2_ := Aside0.mk (Kd.N_afterv (ok := (fun k_ => some k_ ≠ (.slice Ao34 x10_1.length co34 : Value).ownBlock ∧ some k_ ≠ (.slice (some ad148) t143.length co48 : Value).ownBlock)) (by (with_reducible repeat (first | apply Kd.N_alloc | apply Kd.N_drewN | apply Kd.N_drew)); exact Kd.N_mono HO161.out (fun _ hk => by first | exact ⟨⟨hk.1, hk.2.1⟩, hk.2.2⟩ | ((try simp only [and_assoc] at hk); and_intros <;> first | exact hk.1 | exact hk.2.1 | exact hk.2.2.1 | exact hk.2.2.2.1 | exact hk.2.2.2.2.1 | exact hk.2.2.2.2 | exact hk.2.2.2 | exact hk.2.2 | exact hk.2))) hg hat); have n3_ := Aside0.mk (hb); have n4_ := Aside0.mk (ho); clear HO_10; clear HO_14; clear HO161; clear HB; clear HO_17; have HO_10 := n0_; have HO_14 := n1_; have HO161 := n2_; have HB := n3_; have HO164 := n4_; clear n0_ n1_ n2_ n3_ n4_; clear ho hb hg hat))
                                          go_roundg kj46
                                          case measure => have := HK1.out; have := HJ7.out; have := HJ31.out; have := HK4.out; have := HJ46.out; omega
                                          case rel => exact ⟨(y159), (y162), (wrap64 (x18_4 + 1)), (by first | rfl | (simp; done) | (simp [*]; done)), H', ⟨by have := HK1.out; have := HJ7.out; have := HJ31.out; have := HK4.out; have := HJ46.out; omega⟩, ⟨by (with_reducible repeat (first | apply Kd.N_alloc | apply Kd.N_drewN | apply Kd.N_drew)); exact Kd.N_mono HO_10.out (fun _ hk => by first | exact ⟨hk.1.1, ⟨hk.1.2, hk.2⟩⟩ | ((try simp only [and_assoc] at hk); and_intros <;> first | exact hk.1 | exact hk.2.1 | exact hk.2.2.1 | exact hk.2.2.2.1 | exact hk.2.2.2.2.1 | exact hk.2.2.2.2 | exact hk.2.2.2 | exact hk.2.2 | exact hk.2))⟩, ⟨by (with_reducible repeat (first | apply Kd.N_alloc | apply Kd.N_drewN | apply Kd.N_drew)); exact Kd.N_mono HO_14.out (fun _ hk => by first | exact ⟨hk.1.1, ⟨hk.1.2, hk.2⟩⟩ | ((try simp only [and_assoc] at hk); and_intros <;> first | exact hk.1 | exact hk.2.1 | exact hk.2.2.1 | exact hk.2.2.2.1 | exact hk.2.2.2.2.1 | exact hk.2.2.2.2 | exact hk.2.2.2 | exact hk.2.2 | exact hk.2))⟩, ⟨by (with_reducible repeat (first | apply Kd.N_alloc | apply Kd.N_drewN | apply Kd.N_drew)); exact Kd.N_mono HO161.out (fun _ hk => by first | exact ⟨hk.1.1, ⟨hk.1.2, hk.2⟩⟩ | ((try simp only [and_assoc] at hk); and_intros <;> first | exact hk.1 | exact hk.2.1 | exact hk.2.2.1 | exact hk.2.2.2.1 | exact hk.2.2.2.2.1 | exact hk.2.2.2.2 | exact hk.2.2.2 | exact hk.2.2 | exact hk.2))⟩, ⟨by (with_reducible repeat (first | apply Kd.N_alloc | apply Kd.N_drewN | apply Kd.N_drew)); exact HO164.out⟩, ⟨by repeat (first | (with_reducible first | exact HB.out | apply below_alloc | apply pw_below_drewN | apply below_drew1) | exact HB.out)⟩⟩
                                        · rw [if_neg c59] at H
                                          exact absurd H (by simp)
                                      · rw [if_neg c58] at H
                                        exact absurd H (by simp)
                                    · rw [if_neg c56] at H
                                      exact absurd H (by simp)
                                  · rw [if_neg c55] at H
                                    have c55b0 : decide (x18_4 < (l3.length : Int)) = false := decide_eq_false c55
                                    clear c55
                                    have H' := Aside0.mk H
                                    clear H
                                    go_wp2
                                    go_roundg kj46
                                    case measure => have := HK1.out; have := HJ7.out; have := HJ31.out; have := HK4.out; have := HJ46.out; omega
                                    case rel => exact ⟨(x16_46), (x17_46), (wrap64 (x18_4 + 1)), (by first | rfl | (simp; done) | (simp [*]; done)), H', ⟨by have := HK1.out; have := HJ7.out; have := HJ31.out; have := HK4.out; have := HJ46.out; omega⟩, ⟨by (with_reducible repeat (first | apply Kd.N_alloc | apply Kd.N_drewN | apply Kd.N_drew)); exact HO_10.out⟩, ⟨by (with_reducible repeat (first | apply Kd.N_alloc | apply Kd.N_drewN | apply Kd.N_drew)); exact HO_14.out⟩, ⟨by (with_reducible repeat (first | apply Kd.N_alloc | apply Kd.N_drewN | apply Kd.N_drew)); exact HO_16.out⟩, ⟨by (with_reducible repeat (first | apply Kd.N_alloc | apply Kd.N_drewN | apply Kd.N_drew)); exact HO_17.out⟩, ⟨by repeat (first | (with_reducible first | exact HB.out | apply below_alloc | apply pw_below_drewN | apply below_drew1) | exact HB.out)⟩⟩
                            · rw [if_neg c46] at H
                              exact absurd H (by simp)
                          · rw [if_neg c45] at H
                            exact absurd H (by simp)
                        · rw [if_neg c43] at H
                          have c43b0 : decide (x18_4 < (x10_1.length : Int)) = false := decide_eq_false c43
                          clear c43
                          replace H := Option.bind_eq_some_iff.mp H
                          obtain ⟨⟨t165, t166⟩, A620, H⟩ := H
                          replace H : (if t166 = 0 then (packthreadkeep_FetchStill.j5 k4 x16_4 x17_4 t165 ((t165.length : Int) != (wrap64 ((x16_4.length : Int) + 1)))) else (packthreadkeep_FetchStill.j5 k4 x16_4 x17_4 t165 true)) = some r := H
                          have A62 := Aside0.mk A620
                          clear A620
                          have HC63 := Aside0.mk H
                          clear H
                          obtain ⟨Ao64, co64, eo64⟩ := Kd.N_slice HO_16.out
                          subst eo64
                          go_upto_region 26 with (first | ((with_reducible refine gate_callee (f := 29) rfl ?_); refine goesL_ (some 136) rfl rfl Try.func29 (by kernel_rfl) rfl #[.slice Ao64 x16_4.length co64] rfl (by (try simp only [List.map_toArray, List.map_cons, List.map_nil]); first | done | rfl | (simp only [List.length_drop, List.length_take]; rfl)) ?_; (with_reducible refine (fetch_Play.calls _ _ x16_4 t165 t166 _ ?side1 ?side2 A62.out).mono ?_); (case side1 => repeat (first | exact (Kd.N_reads' HO_16.out).2.2 | (with_reducible refine Kd.C_alloc ?_ _) | (with_reducible refine Kd.C_drewN ?_ _) | (with_reducible refine Kd.C_drew ?_))); (case side2 => exact (Kd.N_reads' HO_16.out).2.1); rintro e w65 ⟨v167, rfl, ho0, hb⟩; refine ⟨_, rfl, ?_⟩; have n0_ := Aside0.mk (Kd.N_elder' (by (with_reducible repeat (first | apply Kd.N_alloc | apply Kd.N_drewN | apply Kd.N_drew)); exact HO_10.out) (Kd.S_base ho0) hb); have n1_ := Aside0.mk (Kd.N_elder' (by (with_reducible repeat (first | apply Kd.N_alloc | apply Kd.N_drewN | apply Kd.N_drew)); exact HO_14.out) (Kd.S_base ho0) hb); have n2_ := Aside0.mk (Kd.N_elder' (by (with_reducible repeat (first | apply Kd.N_alloc | apply Kd.N_drewN | apply Kd.N_drew)); exact HO_16.out) (Kd.S_base ho0) hb); have n3_ := Aside0.mk (Kd.N_elder' (by (with_reducible repeat (first | apply Kd.N_alloc | apply Kd.N_drewN | apply Kd.N_drew)); exact HO_17.out) (Kd.S_base ho0) hb); have n4_ := Aside0.mk (Kd.N_lower (Kd.N_mono (ok' := fun k_ => some k_ ≠ (.slice Ao34 x10_1.length co34 : Value).ownBlock ∧ some k_ ≠ (v145 : Value).ownBlock ∧ some k_ ≠ (.slice Ao64 x16_4.length co64 : Value).ownBlock ∧ some k_ ≠ (u17 : Value).ownBlock) (Kd.S_N (Kd.S_bound ho0)) (fun k_ hk_ => ⟨(Kd.fresh' (Kd.N_lt (by (with_reducible repeat (first | apply Kd.N_alloc | apply Kd.N_drewN | apply Kd.N_drew)); exact HO_10.out)) k_ hk_.2.1), (Kd.fresh' (Kd.N_lt (by (with_reducible repeat (first | apply Kd.N_alloc | apply Kd.N_drewN | apply Kd.N_drew)); exact HO_14.out)) k_ hk_.2.1), (Kd.fresh' (Kd.N_lt (by (with_reducible repeat (first | apply Kd.N_alloc | apply Kd.N_drewN | apply Kd.N_drew)); exact HO_16.out)) k_ hk_.2.1), (Kd.fresh' (Kd.N_lt (by (with_reducible repeat (first | apply Kd.N_alloc | apply Kd.N_drewN | apply Kd.N_drew)); exact HO_17.out)) k_ hk_.2.1)⟩)) (below_size (by repeat (first | (with_reducible first | exact HB.out | apply below_alloc | apply pw_below_drewN | apply below_drew1) | exact HB.out)))); have n5_ := Aside0.mk (below_step (by repeat (first | (with_reducible first | exact HB.out | apply below_alloc | apply pw_below_drewN | apply below_drew1) | exact HB.out)) hb); clear HO_10; clear HO_14; clear HO_16; clear HO_17; clear HB; have HO_10 := n0_; have HO_14 := n1_; have HO_16 := n2_; have HO_17 := n3_; have HO168 := n4_; have HB := n5_; clear n0_ n1_ n2_ n3_ n4_ n5_; (try clear hb); (try clear hb2); (try clear hk); (try clear hi); (try clear ho0)))
                          (try simp only [Act.put, List.setIfInBounds_toArray, List.set_cons_zero, List.set_cons_succ])
                          go_cut [148] (fun v148 wc => ∃ (kq : Nat) (x148_62 : Bool), v148 = .bool x148_62 ∧ Aside0 (packthreadkeep_FetchStill.j5 kq x16_4 x17_4 t165 x148_62 = some r) ∧ Aside0 (kq ≤ k4) ∧ Aside0 (Kd.N k65 65 wc w.heap.size (fun k_ => some k_ ≠ (u17 : Value).ownBlock ∧ some k_ ≠ (v167 : Value).ownBlock) (.slice Ao64 x16_4.length co64) x16_4) ∧ Aside0 (Kd.N k71 71 wc w.heap.size (fun k_ => some k_ ≠ ((.slice Ao64 x16_4.length co64) : Value).ownBlock ∧ some k_ ≠ (v167 : Value).ownBlock) u17 x17_4) ∧ Aside0 (Kd.N k71 71 wc w.heap.size (fun k_ => some k_ ≠ ((.slice Ao64 x16_4.length co64) : Value).ownBlock ∧ some k_ ≠ (u17 : Value).ownBlock) v167 t165) ∧ Aside0 (Below w.heap.size w wc))
                          case first =>
                            have H := HC63.out
                            clear HC63
                            by_cases c66 : t166 = 0
                            · rw [if_pos c66] at H
                              have c66b0 : (t166 == 0) = true := beq_iff_eq.mpr c66
                              have c66b1 : (t166 != 0) = false := bne_eq_false_iff_eq.mpr c66
                              clear c66
                              (first | rw [c66b0] | (simp only [i64_w, i32_w]; rw [c66b0]) | rw [c66b1] | skip)
                              have H' := Aside0.mk H
                              clear H
                              obtain ⟨Ao67, co67, eo67⟩ := Kd.N_slice HO168.out
                              subst eo67
                              go_wp2
                              go_meet
                              case rel => exact ⟨_, (((t165.length : Int) != (wrap64 ((x16_4.length : Int) + 1)))), (by first | rfl | (simp; done) | (simp [*]; done)), H', ⟨by have := HK1.out; have := HJ7.out; have := HJ31.out; have := HK4.out; first | omega | exact Nat.le_refl _⟩, ⟨by (with_reducible repeat (first | apply Kd.N_alloc | apply Kd.N_drewN | apply Kd.N_drew)); exact Kd.N_mono HO_16.out (fun _ hk => by first | exact ⟨hk.1.2.2, hk.2⟩ | (and_intros <;> first | exact hk | exact hk.1 | exact hk.2 | exact hk.1.1 | exact hk.1.2 | exact hk.2.1 | exact hk.2.2 | exact hk.1.1.1 | exact hk.1.1.2 | exact hk.2.2.1 | exact hk.2.2.2))⟩, ⟨by (with_reducible repeat (first | apply Kd.N_alloc | apply Kd.N_drewN | apply Kd.N_drew)); exact Kd.N_mono HO_17.out (fun _ hk => by first | exact ⟨hk.1.2.2, hk.2⟩ | (and_intros <;> first | exact hk | exact hk.1 | exact hk.2 | exact hk.1.1 | exact hk.1.2 | exact hk.2.1 | exact hk.2.2 | exact hk.1.1.1 | exact hk.1.1.2 | exact hk.2.2.1 | exact hk.2.2.2))⟩, ⟨by (with_reducible repeat (first | apply Kd.N_alloc | apply Kd.N_drewN | apply Kd.N_drew)); exact Kd.N_mono HO168.out (fun _ hk => by first | exact ⟨hk.2.2.1, hk.2.2.2⟩ | (and_intros <;> first | exact hk | exact hk.1 | exact hk.2 | exact hk.1.1 | exact hk.1.2 | exact hk.2.1 | exact hk.2.2 | exact hk.1.1.1 | exact hk.1.1.2 | exact hk.2.2.1 | exact hk.2.2.2))⟩, ⟨by repeat (first | (with_reducible first | exact HB.out | apply below_alloc | apply pw_below_drewN | apply below_drew1) | exact HB.out)⟩⟩
                            · rw [if_neg c66] at H
                              have c66b0 : (t166 == 0) = false := beq_eq_false_iff_ne.mpr c66
                              have c66b1 : (t166 != 0) = true := bne_iff_ne.mpr c66
                              (first | rw [c66b0] | (simp only [i64_w, i32_w]; rw [c66b0]) | rw [c66b1] | skip)
                              have H' := Aside0.mk H
                              clear H
                              go_wp2
                              go_meet
                              case rel => exact ⟨_, (true), (by first | rfl | (simp; done) | (simp [*]; done)), H', ⟨by have := HK1.out; have := HJ7.out; have := HJ31.out; have := HK4.out; first | omega | exact Nat.le_refl _⟩, ⟨by (with_reducible repeat (first | apply Kd.N_alloc | apply Kd.N_drewN | apply Kd.N_drew)); exact Kd.N_mono HO_16.out (fun _ hk => by first | exact ⟨hk.1.2.2, hk.2⟩ | (and_intros <;> first | exact hk | exact hk.1 | exact hk.2 | exact hk.1.1 | exact hk.1.2 | exact hk.2.1 | exact hk.2.2 | exact hk.1.1.1 | exact hk.1.1.2 | exact hk.2.2.1 | exact hk.2.2.2))⟩, ⟨by (with_reducible repeat (first | apply Kd.N_alloc | apply Kd.N_drewN | apply Kd.N_drew)); exact Kd.N_mono HO_17.out (fun _ hk => by first | exact ⟨hk.1.2.2, hk.2⟩ | (and_intros <;> first | exact hk | exact hk.1 | exact hk.2 | exact hk.1.1 | exact hk.1.2 | exact hk.2.1 | exact hk.2.2 | exact hk.1.1.1 | exact hk.1.1.2 | exact hk.2.2.1 | exact hk.2.2.2))⟩, ⟨by (with_reducible repeat (first | apply Kd.N_alloc | apply Kd.N_drewN | apply Kd.N_drew)); exact Kd.N_mono HO168.out (fun _ hk => by first | exact ⟨hk.2.2.1, hk.2.2.2⟩ | (and_intros <;> first | exact hk | exact hk.1 | exact hk.2 | exact hk.1.1 | exact hk.1.2 | exact hk.2.1 | exact hk.2.2 | exact hk.1.1.1 | exact hk.1.1.2 | exact hk.2.2.1 | exact hk.2.2.2))⟩, ⟨by repeat (first | (with_reducible first | exact HB.out | apply below_alloc | apply pw_below_drewN | apply below_drew1) | exact HB.out)⟩⟩
                          case rest =>
                            clear HC63
                            try clear c1
                            try clear p1
                            try clear q1
                            try clear hx1
                            try clear qi1
                            try clear c2
                            try clear p2
                            try clear q2
                            try clear c3
                            try clear c4
                            try clear c5
                            try clear c6
                            try clear p6
                            try clear c9
                            try clear c9b0
                            try clear c9b1
                            try clear c10
                            try clear c11
                            try clear c11b0
                            try clear c12
                            try clear c12b0
                            try clear p12
                            try clear q12
                            try clear hx12
                            try clear c13
                            try clear c14
                            try clear c14b0
                            try clear p14
                            try clear q14
                            try clear hx14
                            try clear qi14
                            try clear c15
                            try clear p15
                            try clear q15
                            try clear hx15
                            try clear c17
                            try clear c17b0
                            try clear c17b1
                            try clear c18
                            try clear c18b0
                            try clear c18b1
                            try clear c19
                            try clear c19b0
                            try clear c19b1
                            try clear c20
                            try clear c21
                            try clear c23
                            try clear q23
                            try clear c26
                            try clear c27
                            try clear c29
                            try clear c30
                            try clear c37
                            try clear c37b0
                            try clear c37b1
                            try clear c38
                            try clear c38b0
                            try clear c38b1
                            try clear c39
                            try clear c39b0
                            try clear c39b1
                            try clear c42
                            try clear c43
                            try clear c43b0
                            try clear c45
                            try clear c45b0
                            try clear c46
                            try clear c46b0
                            try clear c49
                            try clear c49b0
                            try clear c49b1
                            try clear c50
                            try clear c50b0
                            try clear c51
                            try clear c52
                            try clear c55
                            try clear c55b0
                            try clear c56
                            try clear c56b0
                            try clear c58
                            try clear c59
                            try clear p64
                            try clear c66
                            try clear c66b0
                            try clear c66b1
                            try clear hx124_0
                            try clear hx147_0
                            try clear hx147_1
                            try clear hx147_2
                            try clear hx147_3
                            try clear hx148_0
                            try clear hx148_1
                            try clear hx148_2
                            try clear hx148_3
                            try clear hx149_0
                            try clear hx149_1
                            try clear hx149_2
                            try clear hx153_0
                            try clear hx153_1
                            try clear hx153_2
                            try clear hx153_3
                            try clear hx157_0
                            try clear p1
                            try clear p12
                            try clear p124
                            try clear p14
                            try clear p147
                            try clear p148
                            try clear p149
                            try clear p15
                            try clear p153
                            try clear p157
                            try clear p2
                            try clear p6
                            try clear q023
                            try clear q1
                            try clear q12
                            try clear q124
                            try clear q14
                            try clear q147
                            try clear q148
                            try clear q149
                            try clear q15
                            try clear q153
                            try clear q157
                            try clear q2
                            try clear q23
                            obtain ⟨kq, x148_62, rfl, HA, HJ62, HO_16, HO_17, HO_19, HB⟩ := hcut
                            cases kq with
                            | zero => exact absurd HA.out (by simp [packthreadkeep_FetchStill.j5])
                            | succ kj62 =>
                              have H := HA.out
                              clear HA
                              simp only [packthreadkeep_FetchStill.j5] at H
                              by_cases c68 : x148_62 = true
                              · subst c68
                                have H1 : (some false) = some r := by rw [if_pos rfl] at H; exact H
                                clear H
                                have H := H1
                                clear H1
                                obtain rfl := Option.some.inj H
                                go_wp2
                                go_ret
                                exact ⟨by first | rfl | (simp [errW_none, errW_some] <;> rfl) | (simp [*, errW_none, errW_some] <;> rfl), by repeat (first | (with_reducible first | exact HB.out | apply below_alloc | apply pw_below_drewN | apply below_drew1) | exact HB.out)⟩
                              · replace c68 := Bool.eq_false_iff.mpr c68
                                subst c68
                                have H1 : (packthreadkeep_FetchStill.l2 kj62 x16_4 x17_4 t165 0) = some r := by rw [if_neg (show ¬ (false = true) by decide)] at H; exact H
                                clear H
                                have H := H1
                                clear H1
                                have H' := Aside0.mk H
                                clear H
                                go_wp2
                                go_loopg [21] kj62 (fun kq v21 w' => ∃ (x21_6 : Int), v21 = .int .i64 x21_6 ∧ Aside0 (packthreadkeep_FetchStill.l2 kq x16_4 x17_4 t165 x21_6 = some r) ∧ Aside0 (kq ≤ kj62) ∧ Aside0 (Kd.N k65 65 w' w.heap.size (fun k_ => some k_ ≠ (u17 : Value).ownBlock ∧ some k_ ≠ (v167 : Value).ownBlock) (.slice Ao64 x16_4.length co64) x16_4) ∧ Aside0 (Kd.N k71 71 w' w.heap.size (fun k_ => some k_ ≠ ((.slice Ao64 x16_4.length co64) : Value).ownBlock ∧ some k_ ≠ (v167 : Value).ownBlock) u17 x17_4) ∧ Aside0 (Kd.N k71 71 w' w.heap.size (fun k_ => some k_ ≠ ((.slice Ao64 x16_4.length co64) : Value).ownBlock ∧ some k_ ≠ (u17 : Value).ownBlock) v167 t165) ∧ Aside0 (Below w.heap.size w w'))
                                case atStart => exact ⟨(0), (by first | rfl | (simp; done) | (simp [*]; done)), H', ⟨Nat.le_refl _⟩, ⟨by (with_reducible repeat (first | apply Kd.N_alloc | apply Kd.N_drewN | apply Kd.N_drew)); exact HO_16.out⟩, ⟨by (with_reducible repeat (first | apply Kd.N_alloc | apply Kd.N_drewN | apply Kd.N_drew)); exact HO_17.out⟩, ⟨by (with_reducible repeat (first | apply Kd.N_alloc | apply Kd.N_drewN | apply Kd.N_drew)); exact HO_19.out⟩, ⟨by repeat (first | (with_reducible first | exact HB.out | apply below_alloc | apply pw_below_drewN | apply below_drew1) | exact HB.out)⟩⟩
                                case round =>
                                  clear H'
                                  try clear c1
                                  try clear p1
                                  try clear q1
                                  try clear hx1
                                  try clear qi1
                                  try clear c2
                                  try clear p2
                                  try clear q2
                                  try clear c3
                                  try clear c4
                                  try clear c5
                                  try clear c6
                                  try clear p6
                                  try clear c9
                                  try clear c9b0
                                  try clear c9b1
                                  try clear c10
                                  try clear c11
                                  try clear c11b0
                                  try clear c12
                                  try clear c12b0
                                  try clear p12
                                  try clear q12
                                  try clear hx12
                                  try clear c13
                                  try clear c14
                                  try clear c14b0
                                  try clear p14
                                  try clear q14
                                  try clear hx14
                                  try clear qi14
                                  try clear c15
                                  try clear p15
                                  try clear q15
                                  try clear hx15
                                  try clear c17
                                  try clear c17b0
                                  try clear c17b1
                                  try clear c18
                                  try clear c18b0
                                  try clear c18b1
                                  try clear c19
                                  try clear c19b0
                                  try clear c19b1
                                  try clear c20
                                  try clear c21
                                  try clear c23
                                  try clear q23
                                  try clear c26
                                  try clear c27
                                  try clear c29
                                  try clear c30
                                  try clear c37
                                  try clear c37b0
                                  try clear c37b1
                                  try clear c38
                                  try clear c38b0
                                  try clear c38b1
                                  try clear c39
                                  try clear c39b0
                                  try clear c39b1
                                  try clear c42
                                  try clear c43
                                  try clear c43b0
                                  try clear c45
                                  try clear c45b0
                                  try clear c46
                                  try clear c46b0
                                  try clear c49
                                  try clear c49b0
                                  try clear c49b1
                                  try clear c50
                                  try clear c50b0
                                  try clear c51
                                  try clear c52
                                  try clear c55
                                  try clear c55b0
                                  try clear c56
                                  try clear c56b0
                                  try clear c58
                                  try clear c59
                                  try clear p64
                                  try clear c66
                                  try clear c66b0
                                  try clear c66b1
                                  try clear c68
                                  try clear hx124_0
                                  try clear hx147_0
                                  try clear hx147_1
                                  try clear hx147_2
                                  try clear hx147_3
                                  try clear hx148_0
                                  try clear hx148_1
                                  try clear hx148_2
                                  try clear hx148_3
                                  try clear hx149_0
                                  try clear hx149_1
                                  try clear hx149_2
                                  try clear hx153_0
                                  try clear hx153_1
                                  try clear hx153_2
                                  try clear hx153_3
                                  try clear hx157_0
                                  try clear p1
                                  try clear p12
                                  try clear p124
                                  try clear p14
                                  try clear p147
                                  try clear p148
                                  try clear p149
                                  try clear p15
                                  try clear p153
                                  try clear p157
                                  try clear p2
                                  try clear p6
                                  try clear p64
                                  try clear q023
                                  try clear q1
                                  try clear q12
                                  try clear q124
                                  try clear q14
                                  try clear q147
                                  try clear q148
                                  try clear q149
                                  try clear q15
                                  try clear q153
                                  try clear q157
                                  try clear q2
                                  try clear q23
                                  obtain ⟨x21_6, rfl, HA, HK6, HO_16, HO_17, HO_19, HB⟩ := hrel
                                  cases gk with
                                  | zero => exact absurd HA.out (by simp [packthreadkeep_FetchStill.l2])
                                  | succ k6 =>
                                    have H := HA.out
                                    clear HA
                                    simp only [packthreadkeep_FetchStill.l2] at H
                                    by_cases c69 : x21_6 < (x16_4.length : Int)
                                    · rw [if_pos c69] at H
                                      have c69b0 : decide (x21_6 < (x16_4.length : Int)) = true := decide_eq_true c69
                                      clear c69
                                      obtain ⟨ji70, hji70⟩ : ∃ j_ : Int, (wrap64 (x21_6 + 1)) = j_ := ⟨_, rfl⟩
                                      replace H : (if 0 ≤ (ji70) then (if (ji70) < (t165.length : Int) then (if 0 ≤ x21_6 then (if x21_6 < (x17_4.length : Int) then (if ((rd_T71 t165 (ji70)).f0) = ((rd_T71 x17_4 x21_6).f0) then (if (((rd_T71 t165 (ji70)).f2) != ((rd_T71 x17_4 x21_6).f2)) = true then (packthreadkeep_FetchStill.j7 k6 x16_4 x17_4 t165 x21_6 true) else ((packthreadkeep_sameBytes.f k6 ((rd_T71 t165 (ji70)).f3) ((rd_T71 x17_4 x21_6).f3)).bind fun t173 => (if t173 = true then (packthreadkeep_FetchStill.j7 k6 x16_4 x17_4 t165 x21_6 ((((rd_T71 t165 (ji70)).f1).length : Int) != (((rd_T71 x17_4 x21_6).f1).length : Int))) else (packthreadkeep_FetchStill.j7 k6 x16_4 x17_4 t165 x21_6 true)))) else (packthreadkeep_FetchStill.j7 k6 x16_4 x17_4 t165 x21_6 true)) else (none)) else (none)) else (none)) else (none)) = some r := by first | (rw [hji70] at H; exact H) | (simp only [hji70] at H ⊢; exact H)
                                      have hji70w : (IntKind.i64.wrap (x21_6 + 1)) = ji70 := (i64_w _).trans hji70
                                      by_cases c71 : 0 ≤ (ji70)
                                      · rw [if_pos c71] at H
                                        have c71b0 : decide (0 ≤ (ji70)) = true := decide_eq_true c71
                                        clear c71
                                        by_cases c72 : (ji70) < (t165.length : Int)
                                        · rw [if_pos c72] at H
                                          have c72b0 : decide ((ji70) < (t165.length : Int)) = true := decide_eq_true c72
                                          clear c72
                                          by_cases c73 : 0 ≤ x21_6
                                          · rw [if_pos c73] at H
                                            have c73b0 : decide (0 ≤ x21_6) = true := decide_eq_true c73
                                            clear c73
                                            by_cases c74 : x21_6 < (x17_4.length : Int)
                                            · rw [if_pos c74] at H
                                              have c74b0 : decide (x21_6 < (x17_4.length : Int)) = true := decide_eq_true c74
                                              clear c74
                                              have HC75 := Aside0.mk H
                                              clear H
                                              obtain ⟨Ao76, co76, eo76⟩ := Kd.N_slice HO_19.out
                                              subst eo76
                                              have p169 : 0 ≤ ((ji70) : Int) := of_decide_eq_true (by first | (with_reducible assumption) | assumption)
                                              have q169 : (ji70) < (t165.length : Int) := of_decide_eq_true (by first | (with_reducible assumption) | assumption)
                                              obtain ⟨ad169, A169_1, c169_1, A169_3, c169_3, e169, hx169_0, hx169_1, hx169_2, hx169_3, hl169_1, hi169_1, hl169_3, hi169_3⟩ := at_T71 (Kd.N_reads' HO_19.out).2.2 (ji70) p169 q169
                                              cases e169
                                              obtain ⟨ce169, hce169, hMe169, hcc169⟩ := Kd.N_get HO_19.out z71 (ji70) p169 (by first | exact q169 | exact of_decide_eq_true (by first | (with_reducible assumption) | assumption) | (have e_ := (Kd.N_reads' HO_19.out).1; omega))
                                              obtain ⟨ua169_1, uc169_1, ua169_3, uc169_3, rfl, ul169_1, ge169_1, ul169_3, ge169_3⟩ := k71_openF hMe169
                                              have hv169_1 := hcc169 1 _ rfl
                                              rw [add_field _ _ 1 (by omega)] at hv169_1
                                              replace hv169_1 := Option.some.inj (hv169_1.symm.trans hx169_1)
                                              injection hv169_1 with hva_ hvn_ hvc_
                                              rw [hva_] at ge169_1
                                              rw [hvc_] at ul169_1
                                              have HL169_1 := Aside0.mk (show Kd.V k82 82 _ w.heap.size _ _ ((rd_T71 t165 (ji70)).f1) from Kd.V_mk ul169_1 ge169_1)
                                              clear hva_ hvn_ hvc_ ge169_1 ul169_1
                                              have hv169_3 := hcc169 3 _ rfl
                                              rw [add_field _ _ 3 (by omega)] at hv169_3
                                              replace hv169_3 := Option.some.inj (hv169_3.symm.trans hx169_3)
                                              injection hv169_3 with hva_ hvn_ hvc_
                                              rw [hva_] at ge169_3
                                              rw [hvc_] at ul169_3
                                              have HL169_3 := Aside0.mk (show Kd.V (Kd.int .u8) 5 _ w.heap.size _ _ ((rd_T71 t165 (ji70)).f3) from Kd.V_mk ul169_3 ge169_3)
                                              clear hva_ hvn_ hvc_ ge169_3 ul169_3
                                              clear hcc169 hce169
                                              have HR169_1 := Aside0.mk hi169_1
                                              have HC169_1 := Aside0.mk hl169_1
                                              clear hi169_1 hl169_1
                                              have HR169_3 := Aside0.mk hi169_3
                                              have HC169_3 := Aside0.mk hl169_3
                                              clear hi169_3 hl169_3
                                              replace p169 := eq_true p169
                                              replace q169 := eq_true q169
                                              go_upto_region 33 with (first | ((with_reducible refine gate_dst (N := 22) rfl ?_); (try (refine gate_guard (by rfl) ?_; dsimp only)); refine box_event ?hg (N := 22) ?hd (cs := #[.int .i64 0, .slice none 0 0, .bool false, .slice none 0 0]) (t := 71) ?hr ?_; (case hd => rfl); (case hg => rfl); (case hr => first | (go_simp; done) | (go_simp; rfl)); intro gb170 hg w77 hbox hb; have n0_ := Aside0.mk (Kd.N_below (Kd.N_elderB (by (with_reducible repeat (first | apply Kd.N_alloc | apply Kd.N_drewN | apply Kd.N_drew)); exact HO_16.out) gb170 (Nat.le_of_eq hg.symm)) hb); have n1_ := Aside0.mk (Kd.N_below (Kd.N_elderB (by (with_reducible repeat (first | apply Kd.N_alloc | apply Kd.N_drewN | apply Kd.N_drew)); exact HO_17.out) gb170 (Nat.le_of_eq hg.symm)) hb); have n2_ := Aside0.mk (Kd.N_below (Kd.N_elderB (by (with_reducible repeat (first | apply Kd.N_alloc | apply Kd.N_drewN | apply Kd.N_drew)); exact HO_19.out) gb170 (Nat.le_of_eq hg.symm)) hb); have n3_ := Aside0.mk (Kd.V_below (Kd.V_elderB (by (with_reducible repeat (first | apply Kd.V_alloc | apply Kd.V_drewN | apply Kd.V_drew)); exact HL169_1.out) gb170 (Nat.le_of_eq hg.symm)) hb); have n4_ := Aside0.mk (Kd.V_below (Kd.V_elderB (by (with_reducible repeat (first | apply Kd.V_alloc | apply Kd.V_drewN | apply Kd.V_drew)); exact HL169_3.out) gb170 (Nat.le_of_eq hg.symm)) hb); have n5_ := Aside0.mk (Kd.C_below (by repeat (first | (with_reducible exact HR169_1.out) | (with_reducible refine Kd.C_alloc ?_ _) | (with_reducible refine Kd.C_drewN ?_ _) | (with_reducible refine Kd.C_drew ?_) | exact HR169_1.out)) hb); have n6_ := Aside0.mk (Kd.C_below (by repeat (first | (with_reducible exact HR169_3.out) | (with_reducible refine Kd.C_alloc ?_ _) | (with_reducible refine Kd.C_drewN ?_ _) | (with_reducible refine Kd.C_drew ?_) | exact HR169_3.out)) hb); have n7_ := Aside0.mk (below_step (by repeat (first | (with_reducible first | exact HB.out | apply below_alloc | apply pw_below_drewN | apply below_drew1) | exact HB.out)) hb); have n8_ := Aside0.mk (hbox); have n9_ := Aside0.mk ((by rw [hg]; exact (below_size (by repeat (first | (with_reducible first | exact HB.out | apply below_alloc | apply pw_below_drewN | apply below_drew1) | exact HB.out))) : w.heap.size ≤ gb170)); have n10_ := Aside0.mk ((by rw [hg]; exact (below_size (by repeat (first | (with_reducible first | exact HB.out | apply below_alloc | apply pw_below_drewN | apply below_drew1) | exact HB.out))) : w.heap.size ≤ gb170)); clear HO_16; clear HO_17; clear HO_19; clear HL169_1; clear HL169_3; clear HR169_1; clear HR169_3; clear HB; have HO_16 := n0_; have HO_17 := n1_; have HO_19 := n2_; have HL169_1 := n3_; have HL169_3 := n4_; have HR169_1 := n5_; have HR169_3 := n6_; have HB := n7_; have BK170 := n8_; have GW170 := n9_; have GE170 := n10_; clear n0_ n1_ n2_ n3_ n4_ n5_ n6_ n7_ n8_ n9_ n10_; clear hb hbox hg; have hcz78_0 : w77.cell? ⟨gb170, 0, none⟩ = some (.int .i64 0) := (blk_cell BK170.out 0).trans rfl; have hcz78_1 : w77.cell? ⟨gb170, 1, none⟩ = some (.slice none 0 0) := (blk_cell BK170.out 1).trans rfl; have hcz78_2 : w77.cell? ⟨gb170, 2, none⟩ = some (.bool false) := (blk_cell BK170.out 2).trans rfl; have hcz78_3 : w77.cell? ⟨gb170, 3, none⟩ = some (.slice none 0 0) := (blk_cell BK170.out 3).trans rfl; have hfz78_0 := blk_frozen BK170.out 0; have hfz78_1 := blk_frozen BK170.out 1; have hfz78_2 := blk_frozen BK170.out 2; have hfz78_3 := blk_frozen BK170.out 3) | ((with_reducible refine gate_store (t := 71) (p := 22) rfl ?_); refine store_event (t := 71) (p := 22) (v := ?vo_w82) (w1 := ((((w77.setCell ⟨gb170, 0, none⟩ (.int .i64 ((rd_T71 t165 (ji70)).f0))).setCell ⟨gb170, 1, none⟩ (.slice A169_1 ((rd_T71 t165 (ji70)).f1).length c169_1)).setCell ⟨gb170, 2, none⟩ (.bool ((rd_T71 t165 (ji70)).f2))).setCell ⟨gb170, 3, none⟩ (.slice A169_3 ((rd_T71 t165 (ji70)).f3).length c169_3))) ?hg ?ho ?hn ?hr ?_; (case ho => rfl); (case hg => rfl); (case hn => rfl); (case hr => first | (go_simp; done) | (go_simp; rfl)); intro w82 hw; have n0_ : Aside0 (Kd.N k65 65 w82 w.heap.size (fun k_ => some k_ ≠ (u17 : Value).ownBlock ∧ some k_ ≠ (.slice (some ad169) t165.length co76 : Value).ownBlock ∧ k_ ≠ gb170) (.slice Ao64 x16_4.length co64) x16_4) := ⟨(by rw [hw]; exact (by (with_reducible repeat (first | apply Kd.N_alloc | apply Kd.N_drewN | apply Kd.N_drew)); exact Kd.N_mono (Kd.N_far (p := ⟨gb170, 3, none⟩) (Kd.N_far (p := ⟨gb170, 2, none⟩) (Kd.N_far (p := ⟨gb170, 1, none⟩) (Kd.N_far (p := ⟨gb170, 0, none⟩) (Kd.N_mono HO_16.out (fun k_ hk => (⟨hk, hk.2⟩ : _ ∧ k_ ≠ gb170))) (fun _ hk => by first | exact hk.2 | (and_intros <;> first | exact hk | exact hk.1 | exact hk.2 | exact hk.1.1 | exact hk.1.2 | exact hk.2.1 | exact hk.2.2 | exact hk.1.1.1 | exact hk.1.1.2 | exact hk.2.2.1 | exact hk.2.2.2)) (.int .i64 ((rd_T71 t165 (ji70)).f0))) (fun _ hk => by first | exact hk.2 | (and_intros <;> first | exact hk | exact hk.1 | exact hk.2 | exact hk.1.1 | exact hk.1.2 | exact hk.2.1 | exact hk.2.2 | exact hk.1.1.1 | exact hk.1.1.2 | exact hk.2.2.1 | exact hk.2.2.2)) (.slice A169_1 ((rd_T71 t165 (ji70)).f1).length c169_1)) (fun _ hk => by first | exact hk.2 | (and_intros <;> first | exact hk | exact hk.1 | exact hk.2 | exact hk.1.1 | exact hk.1.2 | exact hk.2.1 | exact hk.2.2 | exact hk.1.1.1 | exact hk.1.1.2 | exact hk.2.2.1 | exact hk.2.2.2)) (.bool ((rd_T71 t165 (ji70)).f2))) (fun _ hk => by first | exact hk.2 | (and_intros <;> first | exact hk | exact hk.1 | exact hk.2 | exact hk.1.1 | exact hk.1.2 | exact hk.2.1 | exact hk.2.2 | exact hk.1.1.1 | exact hk.1.1.2 | exact hk.2.2.1 | exact hk.2.2.2)) (.slice A169_3 ((rd_T71 t165 (ji70)).f3).length c169_3)) (fun _ hk => by first | exact ⟨hk.1.1.1, ⟨hk.1.1.2, hk.1.2⟩⟩ | ((try simp only [and_assoc] at hk); and_intros <;> first | exact hk.1 | exact hk.2.1 | exact hk.2.2.1 | exact hk.2.2.2.1 | exact hk.2.2.2.2.1 | exact hk.2.2.2.2 | exact hk.2.2.2 | exact hk.2.2 | exact hk.2))))⟩; have n1_ : Aside0 (Kd.N k71 71 w82 w.heap.size (fun k_ => some k_ ≠ (.slice Ao64 x16_4.length co64 : Value).ownBlock ∧ some k_ ≠ (.slice (some ad169) t165.length co76 : Value).ownBlock ∧ k_ ≠ gb170) u17 x17_4) := ⟨(by rw [hw]; exact (by (with_reducible repeat (first | apply Kd.N_alloc | apply Kd.N_drewN | apply Kd.N_drew)); exact Kd.N_mono (Kd.N_far (p := ⟨gb170, 3, none⟩) (Kd.N_far (p := ⟨gb170, 2, none⟩) (Kd.N_far (p := ⟨gb170, 1, none⟩) (Kd.N_far (p := ⟨gb170, 0, none⟩) (Kd.N_mono HO_17.out (fun k_ hk => (⟨hk, hk.2⟩ : _ ∧ k_ ≠ gb170))) (fun _ hk => by first | exact hk.2 | (and_intros <;> first | exact hk | exact hk.1 | exact hk.2 | exact hk.1.1 | exact hk.1.2 | exact hk.2.1 | exact hk.2.2 | exact hk.1.1.1 | exact hk.1.1.2 | exact hk.2.2.1 | exact hk.2.2.2)) (.int .i64 ((rd_T71 t165 (ji70)).f0))) (fun _ hk => by first | exact hk.2 | (and_intros <;> first | exact hk | exact hk.1 | exact hk.2 | exact hk.1.1 | exact hk.1.2 | exact hk.2.1 | exact hk.2.2 | exact hk.1.1.1 | exact hk.1.1.2 | exact hk.2.2.1 | exact hk.2.2.2)) (.slice A169_1 ((rd_T71 t165 (ji70)).f1).length c169_1)) (fun _ hk => by first | exact hk.2 | (and_intros <;> first | exact hk | exact hk.1 | exact hk.2 | exact hk.1.1 | exact hk.1.2 | exact hk.2.1 | exact hk.2.2 | exact hk.1.1.1 | exact hk.1.1.2 | exact hk.2.2.1 | exact hk.2.2.2)) (.bool ((rd_T71 t165 (ji70)).f2))) (fun _ hk => by first | exact hk.2 | (and_intros <;> first | exact hk | exact hk.1 | exact hk.2 | exact hk.1.1 | exact hk.1.2 | exact hk.2.1 | exact hk.2.2 | exact hk.1.1.1 | exact hk.1.1.2 | exact hk.2.2.1 | exact hk.2.2.2)) (.slice A169_3 ((rd_T71 t165 (ji70)).f3).length c169_3)) (fun _ hk => by first | exact ⟨hk.1.1.1, ⟨hk.1.1.2, hk.1.2⟩⟩ | ((try simp only [and_assoc] at hk); and_intros <;> first | exact hk.1 | exact hk.2.1 | exact hk.2.2.1 | exact hk.2.2.2.1 | exact hk.2.2.2.2.1 | exact hk.2.2.2.2 | exact hk.2.2.2 | exact hk.2.2 | exact hk.2))))⟩; have n2_ : Aside0 (Kd.N k71 71 w82 w.heap.size (fun k_ => some k_ ≠ (.slice Ao64 x16_4.length co64 : Value).ownBlock ∧ some k_ ≠ (u17 : Value).ownBlock ∧ k_ ≠ gb170) (.slice (some ad169) t165.length co76) t165) := ⟨(by rw [hw]; exact (by (with_reducible repeat (first | apply Kd.N_alloc | apply Kd.N_drewN | apply Kd.N_drew)); exact Kd.N_mono (Kd.N_far (p := ⟨gb170, 3, none⟩) (Kd.N_far (p := ⟨gb170, 2, none⟩) (Kd.N_far (p := ⟨gb170, 1, none⟩) (Kd.N_far (p := ⟨gb170, 0, none⟩) (Kd.N_mono HO_19.out (fun k_ hk => (⟨hk, hk.2⟩ : _ ∧ k_ ≠ gb170))) (fun _ hk => by first | exact hk.2 | (and_intros <;> first | exact hk | exact hk.1 | exact hk.2 | exact hk.1.1 | exact hk.1.2 | exact hk.2.1 | exact hk.2.2 | exact hk.1.1.1 | exact hk.1.1.2 | exact hk.2.2.1 | exact hk.2.2.2)) (.int .i64 ((rd_T71 t165 (ji70)).f0))) (fun _ hk => by first | exact hk.2 | (and_intros <;> first | exact hk | exact hk.1 | exact hk.2 | exact hk.1.1 | exact hk.1.2 | exact hk.2.1 | exact hk.2.2 | exact hk.1.1.1 | exact hk.1.1.2 | exact hk.2.2.1 | exact hk.2.2.2)) (.slice A169_1 ((rd_T71 t165 (ji70)).f1).length c169_1)) (fun _ hk => by first | exact hk.2 | (and_intros <;> first | exact hk | exact hk.1 | exact hk.2 | exact hk.1.1 | exact hk.1.2 | exact hk.2.1 | exact hk.2.2 | exact hk.1.1.1 | exact hk.1.1.2 | exact hk.2.2.1 | exact hk.2.2.2)) (.bool ((rd_T71 t165 (ji70)).f2))) (fun _ hk => by first | exact hk.2 | (and_intros <;> first | exact hk | exact hk.1 | exact hk.2 | exact hk.1.1 | exact hk.1.2 | exact hk.2.1 | exact hk.2.2 | exact hk.1.1.1 | exact hk.1.1.2 | exact hk.2.2.1 | exact hk.2.2.2)) (.slice A169_3 ((rd_T71 t165 (ji70)).f3).length c169_3)) (fun _ hk => by first | exact ⟨hk.1.1.1, ⟨hk.1.1.2, hk.1.2⟩⟩ | ((try simp only [and_assoc] at hk); and_intros <;> first | exact hk.1 | exact hk.2.1 | exact hk.2.2.1 | exact hk.2.2.2.1 | exact hk.2.2.2.2.1 | exact hk.2.2.2.2 | exact hk.2.2.2 | exact hk.2.2 | exact hk.2))))⟩; have n3_ : Aside0 (Kd.V k82 82 w82 w.heap.size (fun k_ => some k_ ≠ (.slice Ao64 x16_4.length co64 : Value).ownBlock ∧ some k_ ≠ (u17 : Value).ownBlock ∧ some k_ ≠ (.slice (some ad169) t165.length co76 : Value).ownBlock ∧ k_ ≠ gb170) (.slice A169_1 ((rd_T71 t165 (ji70)).f1).length c169_1) ((rd_T71 t165 (ji70)).f1)) := ⟨(by rw [hw]; exact (by (with_reducible repeat (first | apply Kd.V_alloc | apply Kd.V_drewN | apply Kd.V_drew)); exact Kd.V_mono (Kd.V_far (p := ⟨gb170, 3, none⟩) (Kd.V_far (p := ⟨gb170, 2, none⟩) (Kd.V_far (p := ⟨gb170, 1, none⟩) (Kd.V_far (p := ⟨gb170, 0, none⟩) (Kd.V_mono HL169_1.out (fun k_ hk => (⟨hk, hk.2⟩ : _ ∧ k_ ≠ gb170))) (fun _ hk => by first | exact hk.2 | (and_intros <;> first | exact hk | exact hk.1 | exact hk.2 | exact hk.1.1 | exact hk.1.2 | exact hk.2.1 | exact hk.2.2 | exact hk.1.1.1 | exact hk.1.1.2 | exact hk.2.2.1 | exact hk.2.2.2)) (.int .i64 ((rd_T71 t165 (ji70)).f0))) (fun _ hk => by first | exact hk.2 | (and_intros <;> first | exact hk | exact hk.1 | exact hk.2 | exact hk.1.1 | exact hk.1.2 | exact hk.2.1 | exact hk.2.2 | exact hk.1.1.1 | exact hk.1.1.2 | exact hk.2.2.1 | exact hk.2.2.2)) (.slice A169_1 ((rd_T71 t165 (ji70)).f1).length c169_1)) (fun _ hk => by first | exact hk.2 | (and_intros <;> first | exact hk | exact hk.1 | exact hk.2 | exact hk.1.1 | exact hk.1.2 | exact hk.2.1 | exact hk.2.2 | exact hk.1.1.1 | exact hk.1.1.2 | exact hk.2.2.1 | exact hk.2.2.2)) (.bool ((rd_T71 t165 (ji70)).f2))) (fun _ hk => by first | exact hk.2 | (and_intros <;> first | exact hk | exact hk.1 | exact hk.2 | exact hk.1.1 | exact hk.1.2 | exact hk.2.1 | exact hk.2.2 | exact hk.1.1.1 | exact hk.1.1.2 | exact hk.2.2.1 | exact hk.2.2.2)) (.slice A169_3 ((rd_T71 t165 (ji70)).f3).length c169_3)) (fun _ hk => by first | exact ⟨hk.1.1.1.1, ⟨hk.1.1.1.2, ⟨hk.1.1.2, hk.1.2⟩⟩⟩ | ((try simp only [and_assoc] at hk); and_intros <;> first | exact hk.1 | exact hk.2.1 | exact hk.2.2.1 | exact hk.2.2.2.1 | exact hk.2.2.2.2.1 | exact hk.2.2.2.2 | exact hk.2.2.2 | exact hk.2.2 | exact hk.2))))⟩; have n4_ : Aside0 (Kd.V (Kd.int .u8) 5 w82 w.heap.size (fun k_ => some k_ ≠ (.slice Ao64 x16_4.length co64 : Value).ownBlock ∧ some k_ ≠ (u17 : Value).ownBlock ∧ some k_ ≠ (.slice (some ad169) t165.length co76 : Value).ownBlock ∧ k_ ≠ gb170) (.slice A169_3 ((rd_T71 t165 (ji70)).f3).length c169_3) ((rd_T71 t165 (ji70)).f3)) := ⟨(by rw [hw]; exact (by (with_reducible repeat (first | apply Kd.V_alloc | apply Kd.V_drewN | apply Kd.V_drew)); exact Kd.V_mono (Kd.V_far (p := ⟨gb170, 3, none⟩) (Kd.V_far (p := ⟨gb170, 2, none⟩) (Kd.V_far (p := ⟨gb170, 1, none⟩) (Kd.V_far (p := ⟨gb170, 0, none⟩) (Kd.V_mono HL169_3.out (fun k_ hk => (⟨hk, hk.2⟩ : _ ∧ k_ ≠ gb170))) (fun _ hk => by first | exact hk.2 | (and_intros <;> first | exact hk | exact hk.1 | exact hk.2 | exact hk.1.1 | exact hk.1.2 | exact hk.2.1 | exact hk.2.2 | exact hk.1.1.1 | exact hk.1.1.2 | exact hk.2.2.1 | exact hk.2.2.2)) (.int .i64 ((rd_T71 t165 (ji70)).f0))) (fun _ hk => by first | exact hk.2 | (and_intros <;> first | exact hk | exact hk.1 | exact hk.2 | exact hk.1.1 | exact hk.1.2 | exact hk.2.1 | exact hk.2.2 | exact hk.1.1.1 | exact hk.1.1.2 | exact hk.2.2.1 | exact hk.2.2.2)) (.slice A169_1 ((rd_T71 t165 (ji70)).f1).length c169_1)) (fun _ hk => by first | exact hk.2 | (and_intros <;> first | exact hk | exact hk.1 | exact hk.2 | exact hk.1.1 | exact hk.1.2 | exact hk.2.1 | exact hk.2.2 | exact hk.1.1.1 | exact hk.1.1.2 | exact hk.2.2.1 | exact hk.2.2.2)) (.bool ((rd_T71 t165 (ji70)).f2))) (fun _ hk => by first | exact hk.2 | (and_intros <;> first | exact hk | exact hk.1 | exact hk.2 | exact hk.1.1 | exact hk.1.2 | exact hk.2.1 | exact hk.2.2 | exact hk.1.1.1 | exact hk.1.1.2 | exact hk.2.2.1 | exact hk.2.2.2)) (.slice A169_3 ((rd_T71 t165 (ji70)).f3).length c169_3)) (fun _ hk => by first | exact ⟨hk.1.1.1.1, ⟨hk.1.1.1.2, ⟨hk.1.1.2, hk.1.2⟩⟩⟩ | ((try simp only [and_assoc] at hk); and_intros <;> first | exact hk.1 | exact hk.2.1 | exact hk.2.2.1 | exact hk.2.2.2.1 | exact hk.2.2.2.2.1 | exact hk.2.2.2.2 | exact hk.2.2.2 | exact hk.2.2 | exact hk.2))))⟩; have n5_ : Aside0 (w82.heap[gb170]? = some (.cells #[.int .i64 ((rd_T71 t165 (ji70)).f0), .slice A169_1 ((rd_T71 t165 (ji70)).f1).length c169_1, .bool ((rd_T71 t165 (ji70)).f2), .slice A169_3 ((rd_T71 t165 (ji70)).f3).length c169_3] 71 (0, 0))) := ⟨(by rw [hw]; exact (by (with_reducible repeat (first | refine blk_drewN ?_ _ | refine blk_drew ?_ | refine blk_alloc ?_ _)); refine blk_put (cs := #[.int .i64 ((rd_T71 t165 (ji70)).f0), .slice A169_1 ((rd_T71 t165 (ji70)).f1).length c169_1, .bool ((rd_T71 t165 (ji70)).f2), .slice none 0 0]) ?_ 3 _ rfl; (with_reducible repeat (first | refine blk_drewN ?_ _ | refine blk_drew ?_ | refine blk_alloc ?_ _)); refine blk_put (cs := #[.int .i64 ((rd_T71 t165 (ji70)).f0), .slice A169_1 ((rd_T71 t165 (ji70)).f1).length c169_1, .bool false, .slice none 0 0]) ?_ 2 _ rfl; (with_reducible repeat (first | refine blk_drewN ?_ _ | refine blk_drew ?_ | refine blk_alloc ?_ _)); refine blk_put (cs := #[.int .i64 ((rd_T71 t165 (ji70)).f0), .slice none 0 0, .bool false, .slice none 0 0]) ?_ 1 _ rfl; (with_reducible repeat (first | refine blk_drewN ?_ _ | refine blk_drew ?_ | refine blk_alloc ?_ _)); refine blk_put (cs := #[.int .i64 0, .slice none 0 0, .bool false, .slice none 0 0]) ?_ 0 _ rfl; (with_reducible repeat (first | refine blk_drewN ?_ _ | refine blk_drew ?_ | refine blk_alloc ?_ _)); exact BK170.out))⟩; have n6_ : Aside0 (Below w.heap.size w w82) := ⟨(by rw [hw]; exact (by repeat (first | (with_reducible first | exact HB.out | apply below_alloc | apply pw_below_drewN | apply below_drew1 | refine below_set ?_ GE170.out) | exact HB.out)))⟩; clear hw; clear HO_16; clear HO_17; clear HO_19; clear HL169_1; clear HL169_3; clear BK170; clear HB; have HO_16 := n0_; have HO_17 := n1_; have HO_19 := n2_; have HL169_1 := n3_; have HL169_3 := n4_; have BK170 := n5_; have HB := n6_; clear n0_ n1_ n2_ n3_ n4_ n5_ n6_; obtain ⟨Ao83, co83, eo83⟩ := Kd.N_slice HO_17.out; subst eo83; have p171 : 0 ≤ (x21_6 : Int) := of_decide_eq_true (by first | (with_reducible assumption) | assumption); have q171 : x21_6 < (x17_4.length : Int) := of_decide_eq_true (by first | (with_reducible assumption) | assumption); obtain ⟨ad171, A171_1, c171_1, A171_3, c171_3, e171, hx171_0, hx171_1, hx171_2, hx171_3, hl171_1, hi171_1, hl171_3, hi171_3⟩ := at_T71 (Kd.N_reads' HO_17.out).2.2 x21_6 p171 q171; cases e171; obtain ⟨ce171, hce171, hMe171, hcc171⟩ := Kd.N_get HO_17.out z71 x21_6 p171 (by first | exact q171 | exact of_decide_eq_true (by first | (with_reducible assumption) | assumption) | (have e_ := (Kd.N_reads' HO_17.out).1; omega)); obtain ⟨ua171_1, uc171_1, ua171_3, uc171_3, rfl, ul171_1, ge171_1, ul171_3, ge171_3⟩ := k71_openF hMe171; have hv171_1 := hcc171 1 _ rfl; rw [add_field _ _ 1 (by omega)] at hv171_1; replace hv171_1 := Option.some.inj (hv171_1.symm.trans hx171_1); injection hv171_1 with hva_ hvn_ hvc_; rw [hva_] at ge171_1; rw [hvc_] at ul171_1; have HL171_1 := Aside0.mk (show Kd.V k82 82 _ w.heap.size _ _ ((rd_T71 x17_4 x21_6).f1) from Kd.V_mk ul171_1 ge171_1); clear hva_ hvn_ hvc_ ge171_1 ul171_1; have hv171_3 := hcc171 3 _ rfl; rw [add_field _ _ 3 (by omega)] at hv171_3; replace hv171_3 := Option.some.inj (hv171_3.symm.trans hx171_3); injection hv171_3 with hva_ hvn_ hvc_; rw [hva_] at ge171_3; rw [hvc_] at ul171_3; have HL171_3 := Aside0.mk (show Kd.V (Kd.int .u8) 5 _ w.heap.size _ _ ((rd_T71 x17_4 x21_6).f3) from Kd.V_mk ul171_3 ge171_3); clear hva_ hvn_ hvc_ ge171_3 ul171_3; clear hcc171 hce171; have HR171_1 := Aside0.mk hi171_1; have HC171_1 := Aside0.mk hl171_1; clear hi171_1 hl171_1; have HR171_3 := Aside0.mk hi171_3; have HC171_3 := Aside0.mk hl171_3; clear hi171_3 hl171_3; replace p171 := eq_true p171; replace q171 := eq_true q171) | ((with_reducible refine gate_dst (N := 23) rfl ?_); (try (refine gate_guard (by rfl) ?_; dsimp only)); refine box_event ?hg (N := 23) ?hd (cs := #[.int .i64 0, .slice none 0 0, .bool false, .slice none 0 0]) (t := 71) ?hr ?_; (case hd => rfl); (case hg => rfl); (case hr => first | (go_simp; done) | (go_simp; rfl)); intro gb172 hg w84 hbox hb; have n0_ := Aside0.mk (Kd.N_below (Kd.N_elderB (by (with_reducible repeat (first | apply Kd.N_alloc | apply Kd.N_drewN | apply Kd.N_drew)); exact HO_16.out) gb172 (Nat.le_of_eq hg.symm)) hb); have n1_ := Aside0.mk (Kd.N_below (Kd.N_elderB (by (with_reducible repeat (first | apply Kd.N_alloc | apply Kd.N_drewN | apply Kd.N_drew)); exact HO_17.out) gb172 (Nat.le_of_eq hg.symm)) hb); have n2_ := Aside0.mk (Kd.N_below (Kd.N_elderB (by (with_reducible repeat (first | apply Kd.N_alloc | apply Kd.N_drewN | apply Kd.N_drew)); exact HO_19.out) gb172 (Nat.le_of_eq hg.symm)) hb); have n3_ := Aside0.mk (Kd.V_below (Kd.V_elderB (by (with_reducible repeat (first | apply Kd.V_alloc | apply Kd.V_drewN | apply Kd.V_drew)); exact HL169_1.out) gb172 (Nat.le_of_eq hg.symm)) hb); have n4_ := Aside0.mk (Kd.V_below (Kd.V_elderB (by (with_reducible repeat (first | apply Kd.V_alloc | apply Kd.V_drewN | apply Kd.V_drew)); exact HL169_3.out) gb172 (Nat.le_of_eq hg.symm)) hb); have n5_ := Aside0.mk (Kd.V_below (Kd.V_elderB (by (with_reducible repeat (first | apply Kd.V_alloc | apply Kd.V_drewN | apply Kd.V_drew)); exact HL171_1.out) gb172 (Nat.le_of_eq hg.symm)) hb); have n6_ := Aside0.mk (Kd.V_below (Kd.V_elderB (by (with_reducible repeat (first | apply Kd.V_alloc | apply Kd.V_drewN | apply Kd.V_drew)); exact HL171_3.out) gb172 (Nat.le_of_eq hg.symm)) hb); have n7_ := Aside0.mk (Kd.C_below (by repeat (first | (with_reducible exact (Kd.V_reads' HL169_1.out).2.2) | (with_reducible refine Kd.C_alloc ?_ _) | (with_reducible refine Kd.C_drewN ?_ _) | (with_reducible refine Kd.C_drew ?_) | exact (Kd.V_reads' HL169_1.out).2.2)) hb); have n8_ := Aside0.mk (Kd.C_below (by repeat (first | (with_reducible exact (Kd.V_reads' HL169_3.out).2.2) | (with_reducible refine Kd.C_alloc ?_ _) | (with_reducible refine Kd.C_drewN ?_ _) | (with_reducible refine Kd.C_drew ?_) | exact (Kd.V_reads' HL169_3.out).2.2)) hb); have n9_ := Aside0.mk (blk_below (g := gb170) (o := .cells #[.int .i64 ((rd_T71 t165 (ji70)).f0), .slice A169_1 ((rd_T71 t165 (ji70)).f1).length c169_1, .bool ((rd_T71 t165 (ji70)).f2), .slice A169_3 ((rd_T71 t165 (ji70)).f3).length c169_3] 71 (0, 0)) (by (with_reducible repeat (first | refine blk_drewN ?_ _ | refine blk_drew ?_ | refine blk_alloc ?_ _)); exact BK170.out) hb); have n10_ := Aside0.mk (Kd.C_below (by repeat (first | (with_reducible exact (Kd.V_reads' HL171_1.out).2.2) | (with_reducible refine Kd.C_alloc ?_ _) | (with_reducible refine Kd.C_drewN ?_ _) | (with_reducible refine Kd.C_drew ?_) | exact (Kd.V_reads' HL171_1.out).2.2)) hb); have n11_ := Aside0.mk (Kd.C_below (by repeat (first | (with_reducible exact (Kd.V_reads' HL171_3.out).2.2) | (with_reducible refine Kd.C_alloc ?_ _) | (with_reducible refine Kd.C_drewN ?_ _) | (with_reducible refine Kd.C_drew ?_) | exact (Kd.V_reads' HL171_3.out).2.2)) hb); have n12_ := Aside0.mk (below_step (by repeat (first | (with_reducible first | exact HB.out | apply below_alloc | apply pw_below_drewN | apply below_drew1 | refine below_set ?_ GE170.out) | exact HB.out)) hb); have n13_ := Aside0.mk (hbox); have n14_ := Aside0.mk ((by rw [hg]; exact (below_size (by repeat (first | (with_reducible first | exact HB.out | apply below_alloc | apply pw_below_drewN | apply below_drew1 | refine below_set ?_ GE170.out) | exact HB.out))) : w.heap.size ≤ gb172)); have n15_ := Aside0.mk ((by rw [hg]; exact (below_size (by repeat (first | (with_reducible first | exact HB.out | apply below_alloc | apply pw_below_drewN | apply below_drew1 | refine below_set ?_ GE170.out) | exact HB.out))) : w.heap.size ≤ gb172)); have n16_ := Aside0.mk ((by rw [hg]; exact Nat.ne_of_lt (blk_lt (g := gb170) (o := .cells #[.int .i64 ((rd_T71 t165 (ji70)).f0), .slice A169_1 ((rd_T71 t165 (ji70)).f1).length c169_1, .bool ((rd_T71 t165 (ji70)).f2), .slice A169_3 ((rd_T71 t165 (ji70)).f3).length c169_3] 71 (0, 0)) (by (with_reducible repeat (first | refine blk_drewN ?_ _ | refine blk_drew ?_ | refine blk_alloc ?_ _)); exact BK170.out)) : gb170 ≠ gb172)); have n17_ := Aside0.mk ((by rw [hg]; exact Nat.ne_of_gt (blk_lt (g := gb170) (o := .cells #[.int .i64 ((rd_T71 t165 (ji70)).f0), .slice A169_1 ((rd_T71 t165 (ji70)).f1).length c169_1, .bool ((rd_T71 t165 (ji70)).f2), .slice A169_3 ((rd_T71 t165 (ji70)).f3).length c169_3] 71 (0, 0)) (by (with_reducible repeat (first | refine blk_drewN ?_ _ | refine blk_drew ?_ | refine blk_alloc ?_ _)); exact BK170.out)) : gb172 ≠ gb170)); clear HO_16; clear HO_17; clear HO_19; clear HL169_1; clear HL169_3; clear HL171_1; clear HL171_3; clear HR169_1; clear HR169_3; clear BK170; clear HR171_1; clear HR171_3; clear HB; have HO_16 := n0_; have HO_17 := n1_; have HO_19 := n2_; have HL169_1 := n3_; have HL169_3 := n4_; have HL171_1 := n5_; have HL171_3 := n6_; have HR169_1 := n7_; have HR169_3 := n8_; have BK170 := n9_; have HR171_1 := n10_; have HR171_3 := n11_; have HB := n12_; have BK172 := n13_; have GW172 := n14_; have GE172 := n15_; have NB170_172 := n16_; have NB172_170 := n17_; clear n0_ n1_ n2_ n3_ n4_ n5_ n6_ n7_ n8_ n9_ n10_ n11_ n12_ n13_ n14_ n15_ n16_ n17_; clear hb hbox hg; have hnb85 := NB172_170.out; have hnc85 := NB170_172.out; have hcz86_0 : w84.cell? ⟨gb172, 0, none⟩ = some (.int .i64 0) := (blk_cell BK172.out 0).trans rfl; have hcz86_1 : w84.cell? ⟨gb172, 1, none⟩ = some (.slice none 0 0) := (blk_cell BK172.out 1).trans rfl; have hcz86_2 : w84.cell? ⟨gb172, 2, none⟩ = some (.bool false) := (blk_cell BK172.out 2).trans rfl; have hcz86_3 : w84.cell? ⟨gb172, 3, none⟩ = some (.slice none 0 0) := (blk_cell BK172.out 3).trans rfl; have hfz86_0 := blk_frozen BK172.out 0; have hfz86_1 := blk_frozen BK172.out 1; have hfz86_2 := blk_frozen BK172.out 2; have hfz86_3 := blk_frozen BK172.out 3))
                                              (try simp only [Act.put, List.setIfInBounds_toArray, List.set_cons_zero, List.set_cons_succ])
                                              go_cut [192] (fun v192 wc => ∃ (kq : Nat) (x192_74 : Bool), v192 = .bool x192_74 ∧ Aside0 (packthreadkeep_FetchStill.j7 kq x16_4 x17_4 t165 x21_6 x192_74 = some r) ∧ Aside0 (kq ≤ k6) ∧ Aside0 (Kd.N k65 65 wc w.heap.size (fun k_ => some k_ ≠ ((.slice (some ad171) x17_4.length co83) : Value).ownBlock ∧ some k_ ≠ ((.slice (some ad169) t165.length co76) : Value).ownBlock) (.slice Ao64 x16_4.length co64) x16_4) ∧ Aside0 (Kd.N k71 71 wc w.heap.size (fun k_ => some k_ ≠ ((.slice Ao64 x16_4.length co64) : Value).ownBlock ∧ some k_ ≠ ((.slice (some ad169) t165.length co76) : Value).ownBlock) (.slice (some ad171) x17_4.length co83) x17_4) ∧ Aside0 (Kd.N k71 71 wc w.heap.size (fun k_ => some k_ ≠ ((.slice Ao64 x16_4.length co64) : Value).ownBlock ∧ some k_ ≠ ((.slice (some ad171) x17_4.length co83) : Value).ownBlock) (.slice (some ad169) t165.length co76) t165) ∧ Aside0 (Below w.heap.size w wc))
                                              case first =>
                                                have H := HC75.out
                                                clear HC75
                                                by_cases c90 : ((rd_T71 t165 (ji70)).f0) = ((rd_T71 x17_4 x21_6).f0)
                                                · rw [if_pos c90] at H
                                                  have c90b0 : (((rd_T71 t165 (ji70)).f0) == ((rd_T71 x17_4 x21_6).f0)) = true := beq_iff_eq.mpr c90
                                                  have c90b1 : (((rd_T71 t165 (ji70)).f0) != ((rd_T71 x17_4 x21_6).f0)) = false := bne_eq_false_iff_eq.mpr c90
                                                  clear c90
                                                  (first | rw [c90b0] | (simp only [i64_w, i32_w]; rw [c90b0]) | rw [c90b1] | skip)
                                                  by_cases c91 : (((rd_T71 t165 (ji70)).f2) != ((rd_T71 x17_4 x21_6).f2)) = true
                                                  · rw [if_pos c91] at H
                                                    have c91b0 : (((rd_T71 t165 (ji70)).f2) != ((rd_T71 x17_4 x21_6).f2)) = true := c91
                                                    (try (have c91b1 : decide (((rd_T71 t165 (ji70)).f2) = ((rd_T71 x17_4 x21_6).f2)) = false := by simpa using c91))
                                                    (try (have c91b2 : (((rd_T71 t165 (ji70)).f2) == ((rd_T71 x17_4 x21_6).f2)) = false := by simpa using c91))
                                                    (try (have c91b3 : ¬ (((rd_T71 t165 (ji70)).f2) = ((rd_T71 x17_4 x21_6).f2)) := by simpa using c91))
                                                    clear c91
                                                    have H' := Aside0.mk H
                                                    clear H
                                                    have hnb92 := NB170_172.out
                                                    have hnc92 := NB172_170.out
                                                    have hcz93_0 : w84.cell? ⟨gb170, 0, none⟩ = some (.int .i64 ((rd_T71 t165 (ji70)).f0)) := (blk_cell BK170.out 0).trans rfl
                                                    have hcz93_1 : w84.cell? ⟨gb170, 1, none⟩ = some (.slice A169_1 ((rd_T71 t165 (ji70)).f1).length c169_1) := (blk_cell BK170.out 1).trans rfl
                                                    have hcz93_2 : w84.cell? ⟨gb170, 2, none⟩ = some (.bool ((rd_T71 t165 (ji70)).f2)) := (blk_cell BK170.out 2).trans rfl
                                                    have hcz93_3 : w84.cell? ⟨gb170, 3, none⟩ = some (.slice A169_3 ((rd_T71 t165 (ji70)).f3).length c169_3) := (blk_cell BK170.out 3).trans rfl
                                                    have hfz93_0 := blk_frozen BK170.out 0
                                                    have hfz93_1 := blk_frozen BK170.out 1
                                                    have hfz93_2 := blk_frozen BK170.out 2
                                                    have hfz93_3 := blk_frozen BK170.out 3
                                                    have hcz94_0 : w84.cell? ⟨gb172, 0, none⟩ = some (.int .i64 0) := (blk_cell BK172.out 0).trans rfl
                                                    have hcz94_1 : w84.cell? ⟨gb172, 1, none⟩ = some (.slice none 0 0) := (blk_cell BK172.out 1).trans rfl
                                                    have hcz94_2 : w84.cell? ⟨gb172, 2, none⟩ = some (.bool false) := (blk_cell BK172.out 2).trans rfl
                                                    have hcz94_3 : w84.cell? ⟨gb172, 3, none⟩ = some (.slice none 0 0) := (blk_cell BK172.out 3).trans rfl
                                                    have hfz94_0 := blk_frozen BK172.out 0
                                                    have hfz94_1 := blk_frozen BK172.out 1
                                                    have hfz94_2 := blk_frozen BK172.out 2
                                                    have hfz94_3 := blk_frozen BK172.out 3
                                                    go_wp2
                                                    (first | go_meet | ((try subst hji70); go_meet))
                                                    case rel => exact ⟨_, (true), (by first | rfl | (simp; done) | (simp [*]; done)), H', ⟨by have := HK1.out; have := HJ7.out; have := HJ31.out; have := HK4.out; have := HJ62.out; have := HK6.out; first | omega | exact Nat.le_refl _⟩, ⟨by (with_reducible repeat (first | apply Kd.N_alloc | apply Kd.N_drewN | apply Kd.N_drew)); exact Kd.N_mono (Kd.N_far (p := ⟨gb172, 3, none⟩) (Kd.N_far (p := ⟨gb172, 2, none⟩) (Kd.N_far (p := ⟨gb172, 1, none⟩) (Kd.N_far (p := ⟨gb172, 0, none⟩) (Kd.N_mono HO_16.out (fun k_ hk => (⟨hk, hk.2⟩ : _ ∧ k_ ≠ gb172))) (fun _ hk => by first | exact hk.2 | (and_intros <;> first | exact hk | exact hk.1 | exact hk.2 | exact hk.1.1 | exact hk.1.2 | exact hk.2.1 | exact hk.2.2 | exact hk.1.1.1 | exact hk.1.1.2 | exact hk.2.2.1 | exact hk.2.2.2)) (.int .i64 ((rd_T71 x17_4 x21_6).f0))) (fun _ hk => by first | exact hk.2 | (and_intros <;> first | exact hk | exact hk.1 | exact hk.2 | exact hk.1.1 | exact hk.1.2 | exact hk.2.1 | exact hk.2.2 | exact hk.1.1.1 | exact hk.1.1.2 | exact hk.2.2.1 | exact hk.2.2.2)) (.slice A171_1 ((rd_T71 x17_4 x21_6).f1).length c171_1)) (fun _ hk => by first | exact hk.2 | (and_intros <;> first | exact hk | exact hk.1 | exact hk.2 | exact hk.1.1 | exact hk.1.2 | exact hk.2.1 | exact hk.2.2 | exact hk.1.1.1 | exact hk.1.1.2 | exact hk.2.2.1 | exact hk.2.2.2)) (.bool ((rd_T71 x17_4 x21_6).f2))) (fun _ hk => by first | exact hk.2 | (and_intros <;> first | exact hk | exact hk.1 | exact hk.2 | exact hk.1.1 | exact hk.1.2 | exact hk.2.1 | exact hk.2.2 | exact hk.1.1.1 | exact hk.1.1.2 | exact hk.2.2.1 | exact hk.2.2.2)) (.slice A171_3 ((rd_T71 x17_4 x21_6).f3).length c171_3)) (fun _ hk => by first | exact ⟨hk.1.1.1, hk.1.1.2.1⟩ | (and_intros <;> first | exact hk | exact hk.1 | exact hk.2 | exact hk.1.1 | exact hk.1.2 | exact hk.2.1 | exact hk.2.2 | exact hk.1.1.1 | exact hk.1.1.2 | exact hk.2.2.1 | exact hk.2.2.2))⟩, ⟨by (with_reducible repeat (first | apply Kd.N_alloc | apply Kd.N_drewN | apply Kd.N_drew)); exact Kd.N_mono (Kd.N_far (p := ⟨gb172, 3, none⟩) (Kd.N_far (p := ⟨gb172, 2, none⟩) (Kd.N_far (p := ⟨gb172, 1, none⟩) (Kd.N_far (p := ⟨gb172, 0, none⟩) (Kd.N_mono HO_17.out (fun k_ hk => (⟨hk, hk.2⟩ : _ ∧ k_ ≠ gb172))) (fun _ hk => by first | exact hk.2 | (and_intros <;> first | exact hk | exact hk.1 | exact hk.2 | exact hk.1.1 | exact hk.1.2 | exact hk.2.1 | exact hk.2.2 | exact hk.1.1.1 | exact hk.1.1.2 | exact hk.2.2.1 | exact hk.2.2.2)) (.int .i64 ((rd_T71 x17_4 x21_6).f0))) (fun _ hk => by first | exact hk.2 | (and_intros <;> first | exact hk | exact hk.1 | exact hk.2 | exact hk.1.1 | exact hk.1.2 | exact hk.2.1 | exact hk.2.2 | exact hk.1.1.1 | exact hk.1.1.2 | exact hk.2.2.1 | exact hk.2.2.2)) (.slice A171_1 ((rd_T71 x17_4 x21_6).f1).length c171_1)) (fun _ hk => by first | exact hk.2 | (and_intros <;> first | exact hk | exact hk.1 | exact hk.2 | exact hk.1.1 | exact hk.1.2 | exact hk.2.1 | exact hk.2.2 | exact hk.1.1.1 | exact hk.1.1.2 | exact hk.2.2.1 | exact hk.2.2.2)) (.bool ((rd_T71 x17_4 x21_6).f2))) (fun _ hk => by first | exact hk.2 | (and_intros <;> first | exact hk | exact hk.1 | exact hk.2 | exact hk.1.1 | exact hk.1.2 | exact hk.2.1 | exact hk.2.2 | exact hk.1.1.1 | exact hk.1.1.2 | exact hk.2.2.1 | exact hk.2.2.2)) (.slice A171_3 ((rd_T71 x17_4 x21_6).f3).length c171_3)) (fun _ hk => by first | exact ⟨hk.1.1.1, hk.1.1.2.1⟩ | (and_intros <;> first | exact hk | exact hk.1 | exact hk.2 | exact hk.1.1 | exact hk.1.2 | exact hk.2.1 | exact hk.2.2 | exact hk.1.1.1 | exact hk.1.1.2 | exact hk.2.2.1 | exact hk.2.2.2))⟩, ⟨by (with_reducible repeat (first | apply Kd.N_alloc | apply Kd.N_drewN | apply Kd.N_drew)); exact Kd.N_mono (Kd.N_far (p := ⟨gb172, 3, none⟩) (Kd.N_far (p := ⟨gb172, 2, none⟩) (Kd.N_far (p := ⟨gb172, 1, none⟩) (Kd.N_far (p := ⟨gb172, 0, none⟩) (Kd.N_mono HO_19.out (fun k_ hk => (⟨hk, hk.2⟩ : _ ∧ k_ ≠ gb172))) (fun _ hk => by first | exact hk.2 | (and_intros <;> first | exact hk | exact hk.1 | exact hk.2 | exact hk.1.1 | exact hk.1.2 | exact hk.2.1 | exact hk.2.2 | exact hk.1.1.1 | exact hk.1.1.2 | exact hk.2.2.1 | exact hk.2.2.2)) (.int .i64 ((rd_T71 x17_4 x21_6).f0))) (fun _ hk => by first | exact hk.2 | (and_intros <;> first | exact hk | exact hk.1 | exact hk.2 | exact hk.1.1 | exact hk.1.2 | exact hk.2.1 | exact hk.2.2 | exact hk.1.1.1 | exact hk.1.1.2 | exact hk.2.2.1 | exact hk.2.2.2)) (.slice A171_1 ((rd_T71 x17_4 x21_6).f1).length c171_1)) (fun _ hk => by first | exact hk.2 | (and_intros <;> first | exact hk | exact hk.1 | exact hk.2 | exact hk.1.1 | exact hk.1.2 | exact hk.2.1 | exact hk.2.2 | exact hk.1.1.1 | exact hk.1.1.2 | exact hk.2.2.1 | exact hk.2.2.2)) (.bool ((rd_T71 x17_4 x21_6).f2))) (fun _ hk => by first | exact hk.2 | (and_intros <;> first | exact hk | exact hk.1 | exact hk.2 | exact hk.1.1 | exact hk.1.2 | exact hk.2.1 | exact hk.2.2 | exact hk.1.1.1 | exact hk.1.1.2 | exact hk.2.2.1 | exact hk.2.2.2)) (.slice A171_3 ((rd_T71 x17_4 x21_6).f3).length c171_3)) (fun _ hk => by first | exact ⟨hk.1.1.1, hk.1.1.2.1⟩ | (and_intros <;> first | exact hk | exact hk.1 | exact hk.2 | exact hk.1.1 | exact hk.1.2 | exact hk.2.1 | exact hk.2.2 | exact hk.1.1.1 | exact hk.1.1.2 | exact hk.2.2.1 | exact hk.2.2.2))⟩, ⟨by repeat (first | (with_reducible first | exact HB.out | apply below_alloc | apply pw_below_drewN | apply below_drew1 | refine below_set ?_ GE170.out | refine below_set ?_ GE172.out) | exact HB.out)⟩⟩
                                                  · rw [if_neg c91] at H
                                                    have c91b0 : (((rd_T71 t165 (ji70)).f2) != ((rd_T71 x17_4 x21_6).f2)) = false := by simpa using c91
                                                    (try (have c91b1 : decide (((rd_T71 t165 (ji70)).f2) = ((rd_T71 x17_4 x21_6).f2)) = true := by simpa using c91))
                                                    (try (have c91b2 : (((rd_T71 t165 (ji70)).f2) == ((rd_T71 x17_4 x21_6).f2)) = true := by simpa using c91))
                                                    clear c91
                                                    replace H := Option.bind_eq_some_iff.mp H
                                                    obtain ⟨t173, A950, H⟩ := H
                                                    replace H : (if t173 = true then (packthreadkeep_FetchStill.j7 k6 x16_4 x17_4 t165 x21_6 ((((rd_T71 t165 (ji70)).f1).length : Int) != (((rd_T71 x17_4 x21_6).f1).length : Int))) else (packthreadkeep_FetchStill.j7 k6 x16_4 x17_4 t165 x21_6 true)) = some r := H
                                                    have A95 := Aside0.mk A950
                                                    clear A950
                                                    by_cases c96 : t173 = true
                                                    · subst c96
                                                      have H1 : (packthreadkeep_FetchStill.j7 k6 x16_4 x17_4 t165 x21_6 ((((rd_T71 t165 (ji70)).f1).length : Int) != (((rd_T71 x17_4 x21_6).f1).length : Int))) = some r := by rw [if_pos rfl] at H; exact H
                                                      clear H
                                                      have H := H1
                                                      clear H1
                                                      have H' := Aside0.mk H
                                                      clear H
                                                      have hnb97 := NB170_172.out
                                                      have hnc97 := NB172_170.out
                                                      have hcz98_0 : w84.cell? ⟨gb170, 0, none⟩ = some (.int .i64 ((rd_T71 t165 (ji70)).f0)) := (blk_cell BK170.out 0).trans rfl
                                                      have hcz98_1 : w84.cell? ⟨gb170, 1, none⟩ = some (.slice A169_1 ((rd_T71 t165 (ji70)).f1).length c169_1) := (blk_cell BK170.out 1).trans rfl
                                                      have hcz98_2 : w84.cell? ⟨gb170, 2, none⟩ = some (.bool ((rd_T71 t165 (ji70)).f2)) := (blk_cell BK170.out 2).trans rfl
                                                      have hcz98_3 : w84.cell? ⟨gb170, 3, none⟩ = some (.slice A169_3 ((rd_T71 t165 (ji70)).f3).length c169_3) := (blk_cell BK170.out 3).trans rfl
                                                      have hfz98_0 := blk_frozen BK170.out 0
                                                      have hfz98_1 := blk_frozen BK170.out 1
                                                      have hfz98_2 := blk_frozen BK170.out 2
                                                      have hfz98_3 := blk_frozen BK170.out 3
                                                      have hcz99_0 : w84.cell? ⟨gb172, 0, none⟩ = some (.int .i64 0) := (blk_cell BK172.out 0).trans rfl
                                                      have hcz99_1 : w84.cell? ⟨gb172, 1, none⟩ = some (.slice none 0 0) := (blk_cell BK172.out 1).trans rfl
                                                      have hcz99_2 : w84.cell? ⟨gb172, 2, none⟩ = some (.bool false) := (blk_cell BK172.out 2).trans rfl
                                                      have hcz99_3 : w84.cell? ⟨gb172, 3, none⟩ = some (.slice none 0 0) := (blk_cell BK172.out 3).trans rfl
                                                      have hfz99_0 := blk_frozen BK172.out 0
                                                      have hfz99_1 := blk_frozen BK172.out 1
                                                      have hfz99_2 := blk_frozen BK172.out 2
                                                      have hfz99_3 := blk_frozen BK172.out 3
                                                      go_wp2_with (first | (go_at_call 28; (with_reducible refine (packthreadkeep_sameBytes.calls k6 _ _ ((rd_T71 t165 (ji70)).f3) _ _ ((rd_T71 x17_4 x21_6).f3) true _ ?side1 ?side2 ?side3 ?side4 A95.out).mono ?_); (case side1 => repeat (first | exact ((Kd.V_reads' (by (with_reducible repeat (first | apply Kd.V_alloc | apply Kd.V_drewN | apply Kd.V_drew)); exact (Kd.V_mono (Kd.V_far (p := ⟨gb172, 3, none⟩) (Kd.V_far (p := ⟨gb172, 2, none⟩) (Kd.V_far (p := ⟨gb172, 1, none⟩) (Kd.V_far (p := ⟨gb172, 0, none⟩) (Kd.V_mono HL169_3.out (fun k_ hk => (⟨hk, hk.2⟩ : _ ∧ k_ ≠ gb172))) (fun _ hk => by first | exact hk.2 | (and_intros <;> first | exact hk | exact hk.1 | exact hk.2 | exact hk.1.1 | exact hk.1.2 | exact hk.2.1 | exact hk.2.2 | exact hk.1.1.1 | exact hk.1.1.2 | exact hk.2.2.1 | exact hk.2.2.2)) (.int .i64 ((rd_T71 x17_4 x21_6).f0))) (fun _ hk => by first | exact hk.2 | (and_intros <;> first | exact hk | exact hk.1 | exact hk.2 | exact hk.1.1 | exact hk.1.2 | exact hk.2.1 | exact hk.2.2 | exact hk.1.1.1 | exact hk.1.1.2 | exact hk.2.2.1 | exact hk.2.2.2)) (.slice A171_1 ((rd_T71 x17_4 x21_6).f1).length c171_1)) (fun _ hk => by first | exact hk.2 | (and_intros <;> first | exact hk | exact hk.1 | exact hk.2 | exact hk.1.1 | exact hk.1.2 | exact hk.2.1 | exact hk.2.2 | exact hk.1.1.1 | exact hk.1.1.2 | exact hk.2.2.1 | exact hk.2.2.2)) (.bool ((rd_T71 x17_4 x21_6).f2))) (fun _ hk => by first | exact hk.2 | (and_intros <;> first | exact hk | exact hk.1 | exact hk.2 | exact hk.1.1 | exact hk.1.2 | exact hk.2.1 | exact hk.2.2 | exact hk.1.1.1 | exact hk.1.1.2 | exact hk.2.2.1 | exact hk.2.2.2)) (.slice A171_3 ((rd_T71 x17_4 x21_6).f3).length c171_3)) (fun _ h_ => h_.1)))).2.2) | (with_reducible refine Kd.C_alloc ?_ _) | (with_reducible refine Kd.C_drewN ?_ _) | (with_reducible refine Kd.C_drew ?_))); (case side2 => exact HC169_3.out); (case side3 => repeat (first | exact ((Kd.V_reads' (by (with_reducible repeat (first | apply Kd.V_alloc | apply Kd.V_drewN | apply Kd.V_drew)); exact (Kd.V_mono (Kd.V_far (p := ⟨gb172, 3, none⟩) (Kd.V_far (p := ⟨gb172, 2, none⟩) (Kd.V_far (p := ⟨gb172, 1, none⟩) (Kd.V_far (p := ⟨gb172, 0, none⟩) (Kd.V_mono HL171_3.out (fun k_ hk => (⟨hk, hk.2⟩ : _ ∧ k_ ≠ gb172))) (fun _ hk => by first | exact hk.2 | (and_intros <;> first | exact hk | exact hk.1 | exact hk.2 | exact hk.1.1 | exact hk.1.2 | exact hk.2.1 | exact hk.2.2 | exact hk.1.1.1 | exact hk.1.1.2 | exact hk.2.2.1 | exact hk.2.2.2)) (.int .i64 ((rd_T71 x17_4 x21_6).f0))) (fun _ hk => by first | exact hk.2 | (and_intros <;> first | exact hk | exact hk.1 | exact hk.2 | exact hk.1.1 | exact hk.1.2 | exact hk.2.1 | exact hk.2.2 | exact hk.1.1.1 | exact hk.1.1.2 | exact hk.2.2.1 | exact hk.2.2.2)) (.slice A171_1 ((rd_T71 x17_4 x21_6).f1).length c171_1)) (fun _ hk => by first | exact hk.2 | (and_intros <;> first | exact hk | exact hk.1 | exact hk.2 | exact hk.1.1 | exact hk.1.2 | exact hk.2.1 | exact hk.2.2 | exact hk.1.1.1 | exact hk.1.1.2 | exact hk.2.2.1 | exact hk.2.2.2)) (.bool ((rd_T71 x17_4 x21_6).f2))) (fun _ hk => by first | exact hk.2 | (and_intros <;> first | exact hk | exact hk.1 | exact hk.2 | exact hk.1.1 | exact hk.1.2 | exact hk.2.1 | exact hk.2.2 | exact hk.1.1.1 | exact hk.1.1.2 | exact hk.2.2.1 | exact hk.2.2.2)) (.slice A171_3 ((rd_T71 x17_4 x21_6).f3).length c171_3)) (fun _ h_ => h_.1)))).2.2) | (with_reducible refine Kd.C_alloc ?_ _) | (with_reducible refine Kd.C_drewN ?_ _) | (with_reducible refine Kd.C_drew ?_))); (case side4 => exact HC171_3.out); rintro e w' ⟨rfl, ⟨nd, rfl⟩⟩))
                                                      (first | go_meet | ((try subst hji70); go_meet))
                                                      case rel => exact ⟨_, (((((rd_T71 t165 (ji70)).f1).length : Int) != (((rd_T71 x17_4 x21_6).f1).length : Int))), (by first | rfl | (simp; done) | (simp only [← hji70] <;> (first | rfl | simp)) | (simp [*]; done)), H', ⟨by have := HK1.out; have := HJ7.out; have := HJ31.out; have := HK4.out; have := HJ62.out; have := HK6.out; first | omega | exact Nat.le_refl _⟩, ⟨by (with_reducible repeat (first | apply Kd.N_alloc | apply Kd.N_drewN | apply Kd.N_drew)); exact Kd.N_mono (Kd.N_far (p := ⟨gb172, 3, none⟩) (Kd.N_far (p := ⟨gb172, 2, none⟩) (Kd.N_far (p := ⟨gb172, 1, none⟩) (Kd.N_far (p := ⟨gb172, 0, none⟩) (Kd.N_mono HO_16.out (fun k_ hk => (⟨hk, hk.2⟩ : _ ∧ k_ ≠ gb172))) (fun _ hk => by first | exact hk.2 | (and_intros <;> first | exact hk | exact hk.1 | exact hk.2 | exact hk.1.1 | exact hk.1.2 | exact hk.2.1 | exact hk.2.2 | exact hk.1.1.1 | exact hk.1.1.2 | exact hk.2.2.1 | exact hk.2.2.2)) (.int .i64 ((rd_T71 x17_4 x21_6).f0))) (fun _ hk => by first | exact hk.2 | (and_intros <;> first | exact hk | exact hk.1 | exact hk.2 | exact hk.1.1 | exact hk.1.2 | exact hk.2.1 | exact hk.2.2 | exact hk.1.1.1 | exact hk.1.1.2 | exact hk.2.2.1 | exact hk.2.2.2)) (.slice A171_1 ((rd_T71 x17_4 x21_6).f1).length c171_1)) (fun _ hk => by first | exact hk.2 | (and_intros <;> first | exact hk | exact hk.1 | exact hk.2 | exact hk.1.1 | exact hk.1.2 | exact hk.2.1 | exact hk.2.2 | exact hk.1.1.1 | exact hk.1.1.2 | exact hk.2.2.1 | exact hk.2.2.2)) (.bool ((rd_T71 x17_4 x21_6).f2))) (fun _ hk => by first | exact hk.2 | (and_intros <;> first | exact hk | exact hk.1 | exact hk.2 | exact hk.1.1 | exact hk.1.2 | exact hk.2.1 | exact hk.2.2 | exact hk.1.1.1 | exact hk.1.1.2 | exact hk.2.2.1 | exact hk.2.2.2)) (.slice A171_3 ((rd_T71 x17_4 x21_6).f3).length c171_3)) (fun _ hk => by first | exact ⟨hk.1.1.1, hk.1.1.2.1⟩ | (and_intros <;> first | exact hk | exact hk.1 | exact hk.2 | exact hk.1.1 | exact hk.1.2 | exact hk.2.1 | exact hk.2.2 | exact hk.1.1.1 | exact hk.1.1.2 | exact hk.2.2.1 | exact hk.2.2.2))⟩, ⟨by (with_reducible repeat (first | apply Kd.N_alloc | apply Kd.N_drewN | apply Kd.N_drew)); exact Kd.N_mono (Kd.N_far (p := ⟨gb172, 3, none⟩) (Kd.N_far (p := ⟨gb172, 2, none⟩) (Kd.N_far (p := ⟨gb172, 1, none⟩) (Kd.N_far (p := ⟨gb172, 0, none⟩) (Kd.N_mono HO_17.out (fun k_ hk => (⟨hk, hk.2⟩ : _ ∧ k_ ≠ gb172))) (fun _ hk => by first | exact hk.2 | (and_intros <;> first | exact hk | exact hk.1 | exact hk.2 | exact hk.1.1 | exact hk.1.2 | exact hk.2.1 | exact hk.2.2 | exact hk.1.1.1 | exact hk.1.1.2 | exact hk.2.2.1 | exact hk.2.2.2)) (.int .i64 ((rd_T71 x17_4 x21_6).f0))) (fun _ hk => by first | exact hk.2 | (and_intros <;> first | exact hk | exact hk.1 | exact hk.2 | exact hk.1.1 | exact hk.1.2 | exact hk.2.1 | exact hk.2.2 | exact hk.1.1.1 | exact hk.1.1.2 | exact hk.2.2.1 | exact hk.2.2.2)) (.slice A171_1 ((rd_T71 x17_4 x21_6).f1).length c171_1)) (fun _ hk => by first | exact hk.2 | (and_intros <;> first | exact hk | exact hk.1 | exact hk.2 | exact hk.1.1 | exact hk.1.2 | exact hk.2.1 | exact hk.2.2 | exact hk.1.1.1 | exact hk.1.1.2 | exact hk.2.2.1 | exact hk.2.2.2)) (.bool ((rd_T71 x17_4 x21_6).f2))) (fun _ hk => by first | exact hk.2 | (and_intros <;> first | exact hk | exact hk.1 | exact hk.2 | exact hk.1.1 | exact hk.1.2 | exact hk.2.1 | exact hk.2.2 | exact hk.1.1.1 | exact hk.1.1.2 | exact hk.2.2.1 | exact hk.2.2.2)) (.slice A171_3 ((rd_T71 x17_4 x21_6).f3).length c171_3)) (fun _ hk => by first | exact ⟨hk.1.1.1, hk.1.1.2.1⟩ | (and_intros <;> first | exact hk | exact hk.1 | exact hk.2 | exact hk.1.1 | exact hk.1.2 | exact hk.2.1 | exact hk.2.2 | exact hk.1.1.1 | exact hk.1.1.2 | exact hk.2.2.1 | exact hk.2.2.2))⟩, ⟨by (with_reducible repeat (first | apply Kd.N_alloc | apply Kd.N_drewN | apply Kd.N_drew)); exact Kd.N_mono (Kd.N_far (p := ⟨gb172, 3, none⟩) (Kd.N_far (p := ⟨gb172, 2, none⟩) (Kd.N_far (p := ⟨gb172, 1, none⟩) (Kd.N_far (p := ⟨gb172, 0, none⟩) (Kd.N_mono HO_19.out (fun k_ hk => (⟨hk, hk.2⟩ : _ ∧ k_ ≠ gb172))) (fun _ hk => by first | exact hk.2 | (and_intros <;> first | exact hk | exact hk.1 | exact hk.2 | exact hk.1.1 | exact hk.1.2 | exact hk.2.1 | exact hk.2.2 | exact hk.1.1.1 | exact hk.1.1.2 | exact hk.2.2.1 | exact hk.2.2.2)) (.int .i64 ((rd_T71 x17_4 x21_6).f0))) (fun _ hk => by first | exact hk.2 | (and_intros <;> first | exact hk | exact hk.1 | exact hk.2 | exact hk.1.1 | exact hk.1.2 | exact hk.2.1 | exact hk.2.2 | exact hk.1.1.1 | exact hk.1.1.2 | exact hk.2.2.1 | exact hk.2.2.2)) (.slice A171_1 ((rd_T71 x17_4 x21_6).f1).length c171_1)) (fun _ hk => by first | exact hk.2 | (and_intros <;> first | exact hk | exact hk.1 | exact hk.2 | exact hk.1.1 | exact hk.1.2 | exact hk.2.1 | exact hk.2.2 | exact hk.1.1.1 | exact hk.1.1.2 | exact hk.2.2.1 | exact hk.2.2.2)) (.bool ((rd_T71 x17_4 x21_6).f2))) (fun _ hk => by first | exact hk.2 | (and_intros <;> first | exact hk | exact hk.1 | exact hk.2 | exact hk.1.1 | exact hk.1.2 | exact hk.2.1 | exact hk.2.2 | exact hk.1.1.1 | exact hk.1.1.2 | exact hk.2.2.1 | exact hk.2.2.2)) (.slice A171_3 ((rd_T71 x17_4 x21_6).f3).length c171_3)) (fun _ hk => by first | exact ⟨hk.1.1.1, hk.1.1.2.1⟩ | (and_intros <;> first | exact hk | exact hk.1 | exact hk.2 | exact hk.1.1 | exact hk.1.2 | exact hk.2.1 | exact hk.2.2 | exact hk.1.1.1 | exact hk.1.1.2 | exact hk.2.2.1 | exact hk.2.2.2))⟩, ⟨by repeat (first | (with_reducible first | exact HB.out | apply below_alloc | apply pw_below_drewN | apply below_drew1 | refine below_set ?_ GE170.out | refine below_set ?_ GE172.out) | exact HB.out)⟩⟩
                                                    · replace c96 := Bool.eq_false_iff.mpr c96
                                                      subst c96
                                                      have H1 : (packthreadkeep_FetchStill.j7 k6 x16_4 x17_4 t165 x21_6 true) = some r := by rw [if_neg (show ¬ (false = true) by decide)] at H; exact H
                                                      clear H
                                                      have H := H1
                                                      clear H1
                                                      have H' := Aside0.mk H
                                                      clear H
                                                      have hnb100 := NB170_172.out
                                                      have hnc100 := NB172_170.out
                                                      have hcz101_0 : w84.cell? ⟨gb170, 0, none⟩ = some (.int .i64 ((rd_T71 t165 (ji70)).f0)) := (blk_cell BK170.out 0).trans rfl
                                                      have hcz101_1 : w84.cell? ⟨gb170, 1, none⟩ = some (.slice A169_1 ((rd_T71 t165 (ji70)).f1).length c169_1) := (blk_cell BK170.out 1).trans rfl
                                                      have hcz101_2 : w84.cell? ⟨gb170, 2, none⟩ = some (.bool ((rd_T71 t165 (ji70)).f2)) := (blk_cell BK170.out 2).trans rfl
                                                      have hcz101_3 : w84.cell? ⟨gb170, 3, none⟩ = some (.slice A169_3 ((rd_T71 t165 (ji70)).f3).length c169_3) := (blk_cell BK170.out 3).trans rfl
                                                      have hfz101_0 := blk_frozen BK170.out 0
                                                      have hfz101_1 := blk_frozen BK170.out 1
                                                      have hfz101_2 := blk_frozen BK170.out 2
                                                      have hfz101_3 := blk_frozen BK170.out 3
                                                      have hcz102_0 : w84.cell? ⟨gb172, 0, none⟩ = some (.int .i64 0) := (blk_cell BK172.out 0).trans rfl
                                                      have hcz102_1 : w84.cell? ⟨gb172, 1, none⟩ = some (.slice none 0 0) := (blk_cell BK172.out 1).trans rfl
                                                      have hcz102_2 : w84.cell? ⟨gb172, 2, none⟩ = some (.bool false) := (blk_cell BK172.out 2).trans rfl
                                                      have hcz102_3 : w84.cell? ⟨gb172, 3, none⟩ = some (.slice none 0 0) := (blk_cell BK172.out 3).trans rfl
                                                      have hfz102_0 := blk_frozen BK172.out 0
                                                      have hfz102_1 := blk_frozen BK172.out 1
                                                      have hfz102_2 := blk_frozen BK172.out 2
                                                      have hfz102_3 := blk_frozen BK172.out 3
                                                      go_wp2_with (first | (go_at_call 28; (with_reducible refine (packthreadkeep_sameBytes.calls k6 _ _ ((rd_T71 t165 (ji70)).f3) _ _ ((rd_T71 x17_4 x21_6).f3) false _ ?side1 ?side2 ?side3 ?side4 A95.out).mono ?_); (case side1 => repeat (first | exact ((Kd.V_reads' (by (with_reducible repeat (first | apply Kd.V_alloc | apply Kd.V_drewN | apply Kd.V_drew)); exact (Kd.V_mono (Kd.V_far (p := ⟨gb172, 3, none⟩) (Kd.V_far (p := ⟨gb172, 2, none⟩) (Kd.V_far (p := ⟨gb172, 1, none⟩) (Kd.V_far (p := ⟨gb172, 0, none⟩) (Kd.V_mono HL169_3.out (fun k_ hk => (⟨hk, hk.2⟩ : _ ∧ k_ ≠ gb172))) (fun _ hk => by first | exact hk.2 | (and_intros <;> first | exact hk | exact hk.1 | exact hk.2 | exact hk.1.1 | exact hk.1.2 | exact hk.2.1 | exact hk.2.2 | exact hk.1.1.1 | exact hk.1.1.2 | exact hk.2.2.1 | exact hk.2.2.2)) (.int .i64 ((rd_T71 x17_4 x21_6).f0))) (fun _ hk => by first | exact hk.2 | (and_intros <;> first | exact hk | exact hk.1 | exact hk.2 | exact hk.1.1 | exact hk.1.2 | exact hk.2.1 | exact hk.2.2 | exact hk.1.1.1 | exact hk.1.1.2 | exact hk.2.2.1 | exact hk.2.2.2)) (.slice A171_1 ((rd_T71 x17_4 x21_6).f1).length c171_1)) (fun _ hk => by first | exact hk.2 | (and_intros <;> first | exact hk | exact hk.1 | exact hk.2 | exact hk.1.1 | exact hk.1.2 | exact hk.2.1 | exact hk.2.2 | exact hk.1.1.1 | exact hk.1.1.2 | exact hk.2.2.1 | exact hk.2.2.2)) (.bool ((rd_T71 x17_4 x21_6).f2))) (fun _ hk => by first | exact hk.2 | (and_intros <;> first | exact hk | exact hk.1 | exact hk.2 | exact hk.1.1 | exact hk.1.2 | exact hk.2.1 | exact hk.2.2 | exact hk.1.1.1 | exact hk.1.1.2 | exact hk.2.2.1 | exact hk.2.2.2)) (.slice A171_3 ((rd_T71 x17_4 x21_6).f3).length c171_3)) (fun _ h_ => h_.1)))).2.2) | (with_reducible refine Kd.C_alloc ?_ _) | (with_reducible refine Kd.C_drewN ?_ _) | (with_reducible refine Kd.C_drew ?_))); (case side2 => exact HC169_3.out); (case side3 => repeat (first | exact ((Kd.V_reads' (by (with_reducible repeat (first | apply Kd.V_alloc | apply Kd.V_drewN | apply Kd.V_drew)); exact (Kd.V_mono (Kd.V_far (p := ⟨gb172, 3, none⟩) (Kd.V_far (p := ⟨gb172, 2, none⟩) (Kd.V_far (p := ⟨gb172, 1, none⟩) (Kd.V_far (p := ⟨gb172, 0, none⟩) (Kd.V_mono HL171_3.out (fun k_ hk => (⟨hk, hk.2⟩ : _ ∧ k_ ≠ gb172))) (fun _ hk => by first | exact hk.2 | (and_intros <;> first | exact hk | exact hk.1 | exact hk.2 | exact hk.1.1 | exact hk.1.2 | exact hk.2.1 | exact hk.2.2 | exact hk.1.1.1 | exact hk.1.1.2 | exact hk.2.2.1 | exact hk.2.2.2)) (.int .i64 ((rd_T71 x17_4 x21_6).f0))) (fun _ hk => by first | exact hk.2 | (and_intros <;> first | exact hk | exact hk.1 | exact hk.2 | exact hk.1.1 | exact hk.1.2 | exact hk.2.1 | exact hk.2.2 | exact hk.1.1.1 | exact hk.1.1.2 | exact hk.2.2.1 | exact hk.2.2.2)) (.slice A171_1 ((rd_T71 x17_4 x21_6).f1).length c171_1)) (fun _ hk => by first | exact hk.2 | (and_intros <;> first | exact hk | exact hk.1 | exact hk.2 | exact hk.1.1 | exact hk.1.2 | exact hk.2.1 | exact hk.2.2 | exact hk.1.1.1 | exact hk.1.1.2 | exact hk.2.2.1 | exact hk.2.2.2)) (.bool ((rd_T71 x17_4 x21_6).f2))) (fun _ hk => by first | exact hk.2 | (and_intros <;> first | exact hk | exact hk.1 | exact hk.2 | exact hk.1.1 | exact hk.1.2 | exact hk.2.1 | exact hk.2.2 | exact hk.1.1.1 | exact hk.1.1.2 | exact hk.2.2.1 | exact hk.2.2.2)) (.slice A171_3 ((rd_T71 x17_4 x21_6).f3).length c171_3)) (fun _ h_ => h_.1)))).2.2) | (with_reducible refine Kd.C_alloc ?_ _) | (with_reducible refine Kd.C_drewN ?_ _) | (with_reducible refine Kd.C_drew ?_))); (case side4 => exact HC171_3.out); rintro e w' ⟨rfl, ⟨nd, rfl⟩⟩))
                                                      (first | go_meet | ((try subst hji70); go_meet))
                                                      case rel => exact ⟨_, (true), (by first | rfl | (simp; done) | (simp [*]; done)), H', ⟨by have := HK1.out; have := HJ7.out; have := HJ31.out; have := HK4.out; have := HJ62.out; have := HK6.out; first | omega | exact Nat.le_refl _⟩, ⟨by (with_reducible repeat (first | apply Kd.N_alloc | apply Kd.N_drewN | apply Kd.N_drew)); exact Kd.N_mono (Kd.N_far (p := ⟨gb172, 3, none⟩) (Kd.N_far (p := ⟨gb172, 2, none⟩) (Kd.N_far (p := ⟨gb172, 1, none⟩) (Kd.N_far (p := ⟨gb172, 0, none⟩) (Kd.N_mono HO_16.out (fun k_ hk => (⟨hk, hk.2⟩ : _ ∧ k_ ≠ gb172))) (fun _ hk => by first | exact hk.2 | (and_intros <;> first | exact hk | exact hk.1 | exact hk.2 | exact hk.1.1 | exact hk.1.2 | exact hk.2.1 | exact hk.2.2 | exact hk.1.1.1 | exact hk.1.1.2 | exact hk.2.2.1 | exact hk.2.2.2)) (.int .i64 ((rd_T71 x17_4 x21_6).f0))) (fun _ hk => by first | exact hk.2 | (and_intros <;> first | exact hk | exact hk.1 | exact hk.2 | exact hk.1.1 | exact hk.1.2 | exact hk.2.1 | exact hk.2.2 | exact hk.1.1.1 | exact hk.1.1.2 | exact hk.2.2.1 | exact hk.2.2.2)) (.slice A171_1 ((rd_T71 x17_4 x21_6).f1).length c171_1)) (fun _ hk => by first | exact hk.2 | (and_intros <;> first | exact hk | exact hk.1 | exact hk.2 | exact hk.1.1 | exact hk.1.2 | exact hk.2.1 | exact hk.2.2 | exact hk.1.1.1 | exact hk.1.1.2 | exact hk.2.2.1 | exact hk.2.2.2)) (.bool ((rd_T71 x17_4 x21_6).f2))) (fun _ hk => by first | exact hk.2 | (and_intros <;> first | exact hk | exact hk.1 | exact hk.2 | exact hk.1.1 | exact hk.1.2 | exact hk.2.1 | exact hk.2.2 | exact hk.1.1.1 | exact hk.1.1.2 | exact hk.2.2.1 | exact hk.2.2.2)) (.slice A171_3 ((rd_T71 x17_4 x21_6).f3).length c171_3)) (fun _ hk => by first | exact ⟨hk.1.1.1, hk.1.1.2.1⟩ | (and_intros <;> first | exact hk | exact hk.1 | exact hk.2 | exact hk.1.1 | exact hk.1.2 | exact hk.2.1 | exact hk.2.2 | exact hk.1.1.1 | exact hk.1.1.2 | exact hk.2.2.1 | exact hk.2.2.2))⟩, ⟨by (with_reducible repeat (first | apply Kd.N_alloc | apply Kd.N_drewN | apply Kd.N_drew)); exact Kd.N_mono (Kd.N_far (p := ⟨gb172, 3, none⟩) (Kd.N_far (p := ⟨gb172, 2, none⟩) (Kd.N_far (p := ⟨gb172, 1, none⟩) (Kd.N_far (p := ⟨gb172, 0, none⟩) (Kd.N_mono HO_17.out (fun k_ hk => (⟨hk, hk.2⟩ : _ ∧ k_ ≠ gb172))) (fun _ hk => by first | exact hk.2 | (and_intros <;> first | exact hk | exact hk.1 | exact hk.2 | exact hk.1.1 | exact hk.1.2 | exact hk.2.1 | exact hk.2.2 | exact hk.1.1.1 | exact hk.1.1.2 | exact hk.2.2.1 | exact hk.2.2.2)) (.int .i64 ((rd_T71 x17_4 x21_6).f0))) (fun _ hk => by first | exact hk.2 | (and_intros <;> first | exact hk | exact hk.1 | exact hk.2 | exact hk.1.1 | exact hk.1.2 | exact hk.2.1 | exact hk.2.2 | exact hk.1.1.1 | exact hk.1.1.2 | exact hk.2.2.1 | exact hk.2.2.2)) (.slice A171_1 ((rd_T71 x17_4 x21_6).f1).length c171_1)) (fun _ hk => by first | exact hk.2 | (and_intros <;> first | exact hk | exact hk.1 | exact hk.2 | exact hk.1.1 | exact hk.1.2 | exact hk.2.1 | exact hk.2.2 | exact hk.1.1.1 | exact hk.1.1.2 | exact hk.2.2.1 | exact hk.2.2.2)) (.bool ((rd_T71 x17_4 x21_6).f2))) (fun _ hk => by first | exact hk.2 | (and_intros <;> first | exact hk | exact hk.1 | exact hk.2 | exact hk.1.1 | exact hk.1.2 | exact hk.2.1 | exact hk.2.2 | exact hk.1.1.1 | exact hk.1.1.2 | exact hk.2.2.1 | exact hk.2.2.2)) (.slice A171_3 ((rd_T71 x17_4 x21_6).f3).length c171_3)) (fun _ hk => by first | exact ⟨hk.1.1.1, hk.1.1.2.1⟩ | (and_intros <;> first | exact hk | exact hk.1 | exact hk.2 | exact hk.1.1 | exact hk.1.2 | exact hk.2.1 | exact hk.2.2 | exact hk.1.1.1 | exact hk.1.1.2 | exact hk.2.2.1 | exact hk.2.2.2))⟩, ⟨by (with_reducible repeat (first | apply Kd.N_alloc | apply Kd.N_drewN | apply Kd.N_drew)); exact Kd.N_mono (Kd.N_far (p := ⟨gb172, 3, none⟩) (Kd.N_far (p := ⟨gb172, 2, none⟩) (Kd.N_far (p := ⟨gb172, 1, none⟩) (Kd.N_far (p := ⟨gb172, 0, none⟩) (Kd.N_mono HO_19.out (fun k_ hk => (⟨hk, hk.2⟩ : _ ∧ k_ ≠ gb172))) (fun _ hk => by first | exact hk.2 | (and_intros <;> first | exact hk | exact hk.1 | exact hk.2 | exact hk.1.1 | exact hk.1.2 | exact hk.2.1 | exact hk.2.2 | exact hk.1.1.1 | exact hk.1.1.2 | exact hk.2.2.1 | exact hk.2.2.2)) (.int .i64 ((rd_T71 x17_4 x21_6).f0))) (fun _ hk => by first | exact hk.2 | (and_intros <;> first | exact hk | exact hk.1 | exact hk.2 | exact hk.1.1 | exact hk.1.2 | exact hk.2.1 | exact hk.2.2 | exact hk.1.1.1 | exact hk.1.1.2 | exact hk.2.2.1 | exact hk.2.2.2)) (.slice A171_1 ((rd_T71 x17_4 x21_6).f1).length c171_1)) (fun _ hk => by first | exact hk.2 | (and_intros <;> first | exact hk | exact hk.1 | exact hk.2 | exact hk.1.1 | exact hk.1.2 | exact hk.2.1 | exact hk.2.2 | exact hk.1.1.1 | exact hk.1.1.2 | exact hk.2.2.1 | exact hk.2.2.2)) (.bool ((rd_T71 x17_4 x21_6).f2))) (fun _ hk => by first | exact hk.2 | (and_intros <;> first | exact hk | exact hk.1 | exact hk.2 | exact hk.1.1 | exact hk.1.2 | exact hk.2.1 | exact hk.2.2 | exact hk.1.1.1 | exact hk.1.1.2 | exact hk.2.2.1 | exact hk.2.2.2)) (.slice A171_3 ((rd_T71 x17_4 x21_6).f3).length c171_3)) (fun _ hk => by first | exact ⟨hk.1.1.1, hk.1.1.2.1⟩ | (and_intros <;> first | exact hk | exact hk.1 | exact hk.2 | exact hk.1.1 | exact hk.1.2 | exact hk.2.1 | exact hk.2.2 | exact hk.1.1.1 | exact hk.1.1.2 | exact hk.2.2.1 | exact hk.2.2.2))⟩, ⟨by repeat (first | (with_reducible first | exact HB.out | apply below_alloc | apply pw_below_drewN | apply below_drew1 | refine below_set ?_ GE170.out | refine below_set ?_ GE172.out) | exact HB.out)⟩⟩
                                                · rw [if_neg c90] at H
                                                  have c90b0 : (((rd_T71 t165 (ji70)).f0) == ((rd_T71 x17_4 x21_6).f0)) = false := beq_eq_false_iff_ne.mpr c90
                                                  have c90b1 : (((rd_T71 t165 (ji70)).f0) != ((rd_T71 x17_4 x21_6).f0)) = true := bne_iff_ne.mpr c90
                                                  (first | rw [c90b0] | (simp only [i64_w, i32_w]; rw [c90b0]) | rw [c90b1] | skip)
                                                  have H' := Aside0.mk H
                                                  clear H
                                                  have hnb103 := NB170_172.out
                                                  have hnc103 := NB172_170.out
                                                  have hcz104_0 : w84.cell? ⟨gb170, 0, none⟩ = some (.int .i64 ((rd_T71 t165 (ji70)).f0)) := (blk_cell BK170.out 0).trans rfl
                                                  have hcz104_1 : w84.cell? ⟨gb170, 1, none⟩ = some (.slice A169_1 ((rd_T71 t165 (ji70)).f1).length c169_1) := (blk_cell BK170.out 1).trans rfl
                                                  have hcz104_2 : w84.cell? ⟨gb170, 2, none⟩ = some (.bool ((rd_T71 t165 (ji70)).f2)) := (blk_cell BK170.out 2).trans rfl
                                                  have hcz104_3 : w84.cell? ⟨gb170, 3, none⟩ = some (.slice A169_3 ((rd_T71 t165 (ji70)).f3).length c169_3) := (blk_cell BK170.out 3).trans rfl
                                                  have hfz104_0 := blk_frozen BK170.out 0
                                                  have hfz104_1 := blk_frozen BK170.out 1
                                                  have hfz104_2 := blk_frozen BK170.out 2
                                                  have hfz104_3 := blk_frozen BK170.out 3
                                                  have hcz105_0 : w84.cell? ⟨gb172, 0, none⟩ = some (.int .i64 0) := (blk_cell BK172.out 0).trans rfl
                                                  have hcz105_1 : w84.cell? ⟨gb172, 1, none⟩ = some (.slice none 0 0) := (blk_cell BK172.out 1).trans rfl
                                                  have hcz105_2 : w84.cell? ⟨gb172, 2, none⟩ = some (.bool false) := (blk_cell BK172.out 2).trans rfl
                                                  have hcz105_3 : w84.cell? ⟨gb172, 3, none⟩ = some (.slice none 0 0) := (blk_cell BK172.out 3).trans rfl
                                                  have hfz105_0 := blk_frozen BK172.out 0
                                                  have hfz105_1 := blk_frozen BK172.out 1
                                                  have hfz105_2 := blk_frozen BK172.out 2
                                                  have hfz105_3 := blk_frozen BK172.out 3
                                                  go_wp2
                                                  (first | go_meet | ((try subst hji70); go_meet))
                                                  case rel => exact ⟨_, (true), (by first | rfl | (simp; done) | (simp [*]; done)), H', ⟨by have := HK1.out; have := HJ7.out; have := HJ31.out; have := HK4.out; have := HJ62.out; have := HK6.out; first | omega | exact Nat.le_refl _⟩, ⟨by (with_reducible repeat (first | apply Kd.N_alloc | apply Kd.N_drewN | apply Kd.N_drew)); exact Kd.N_mono (Kd.N_far (p := ⟨gb172, 3, none⟩) (Kd.N_far (p := ⟨gb172, 2, none⟩) (Kd.N_far (p := ⟨gb172, 1, none⟩) (Kd.N_far (p := ⟨gb172, 0, none⟩) (Kd.N_mono HO_16.out (fun k_ hk => (⟨hk, hk.2⟩ : _ ∧ k_ ≠ gb172))) (fun _ hk => by first | exact hk.2 | (and_intros <;> first | exact hk | exact hk.1 | exact hk.2 | exact hk.1.1 | exact hk.1.2 | exact hk.2.1 | exact hk.2.2 | exact hk.1.1.1 | exact hk.1.1.2 | exact hk.2.2.1 | exact hk.2.2.2)) (.int .i64 ((rd_T71 x17_4 x21_6).f0))) (fun _ hk => by first | exact hk.2 | (and_intros <;> first | exact hk | exact hk.1 | exact hk.2 | exact hk.1.1 | exact hk.1.2 | exact hk.2.1 | exact hk.2.2 | exact hk.1.1.1 | exact hk.1.1.2 | exact hk.2.2.1 | exact hk.2.2.2)) (.slice A171_1 ((rd_T71 x17_4 x21_6).f1).length c171_1)) (fun _ hk => by first | exact hk.2 | (and_intros <;> first | exact hk | exact hk.1 | exact hk.2 | exact hk.1.1 | exact hk.1.2 | exact hk.2.1 | exact hk.2.2 | exact hk.1.1.1 | exact hk.1.1.2 | exact hk.2.2.1 | exact hk.2.2.2)) (.bool ((rd_T71 x17_4 x21_6).f2))) (fun _ hk => by first | exact hk.2 | (and_intros <;> first | exact hk | exact hk.1 | exact hk.2 | exact hk.1.1 | exact hk.1.2 | exact hk.2.1 | exact hk.2.2 | exact hk.1.1.1 | exact hk.1.1.2 | exact hk.2.2.1 | exact hk.2.2.2)) (.slice A171_3 ((rd_T71 x17_4 x21_6).f3).length c171_3)) (fun _ hk => by first | exact ⟨hk.1.1.1, hk.1.1.2.1⟩ | (and_intros <;> first | exact hk | exact hk.1 | exact hk.2 | exact hk.1.1 | exact hk.1.2 | exact hk.2.1 | exact hk.2.2 | exact hk.1.1.1 | exact hk.1.1.2 | exact hk.2.2.1 | exact hk.2.2.2))⟩, ⟨by (with_reducible repeat (first | apply Kd.N_alloc | apply Kd.N_drewN | apply Kd.N_drew)); exact Kd.N_mono (Kd.N_far (p := ⟨gb172, 3, none⟩) (Kd.N_far (p := ⟨gb172, 2, none⟩) (Kd.N_far (p := ⟨gb172, 1, none⟩) (Kd.N_far (p := ⟨gb172, 0, none⟩) (Kd.N_mono HO_17.out (fun k_ hk => (⟨hk, hk.2⟩ : _ ∧ k_ ≠ gb172))) (fun _ hk => by first | exact hk.2 | (and_intros <;> first | exact hk | exact hk.1 | exact hk.2 | exact hk.1.1 | exact hk.1.2 | exact hk.2.1 | exact hk.2.2 | exact hk.1.1.1 | exact hk.1.1.2 | exact hk.2.2.1 | exact hk.2.2.2)) (.int .i64 ((rd_T71 x17_4 x21_6).f0))) (fun _ hk => by first | exact hk.2 | (and_intros <;> first | exact hk | exact hk.1 | exact hk.2 | exact hk.1.1 | exact hk.1.2 | exact hk.2.1 | exact hk.2.2 | exact hk.1.1.1 | exact hk.1.1.2 | exact hk.2.2.1 | exact hk.2.2.2)) (.slice A171_1 ((rd_T71 x17_4 x21_6).f1).length c171_1)) (fun _ hk => by first | exact hk.2 | (and_intros <;> first | exact hk | exact hk.1 | exact hk.2 | exact hk.1.1 | exact hk.1.2 | exact hk.2.1 | exact hk.2.2 | exact hk.1.1.1 | exact hk.1.1.2 | exact hk.2.2.1 | exact hk.2.2.2)) (.bool ((rd_T71 x17_4 x21_6).f2))) (fun _ hk => by first | exact hk.2 | (and_intros <;> first | exact hk | exact hk.1 | exact hk.2 | exact hk.1.1 | exact hk.1.2 | exact hk.2.1 | exact hk.2.2 | exact hk.1.1.1 | exact hk.1.1.2 | exact hk.2.2.1 | exact hk.2.2.2)) (.slice A171_3 ((rd_T71 x17_4 x21_6).f3).length c171_3)) (fun _ hk => by first | exact ⟨hk.1.1.1, hk.1.1.2.1⟩ | (and_intros <;> first | exact hk | exact hk.1 | exact hk.2 | exact hk.1.1 | exact hk.1.2 | exact hk.2.1 | exact hk.2.2 | exact hk.1.1.1 | exact hk.1.1.2 | exact hk.2.2.1 | exact hk.2.2.2))⟩, ⟨by (with_reducible repeat (first | apply Kd.N_alloc | apply Kd.N_drewN | apply Kd.N_drew)); exact Kd.N_mono (Kd.N_far (p := ⟨gb172, 3, none⟩) (Kd.N_far (p := ⟨gb172, 2, none⟩) (Kd.N_far (p := ⟨gb172, 1, none⟩) (Kd.N_far (p := ⟨gb172, 0, none⟩) (Kd.N_mono HO_19.out (fun k_ hk => (⟨hk, hk.2⟩ : _ ∧ k_ ≠ gb172))) (fun _ hk => by first | exact hk.2 | (and_intros <;> first | exact hk | exact hk.1 | exact hk.2 | exact hk.1.1 | exact hk.1.2 | exact hk.2.1 | exact hk.2.2 | exact hk.1.1.1 | exact hk.1.1.2 | exact hk.2.2.1 | exact hk.2.2.2)) (.int .i64 ((rd_T71 x17_4 x21_6).f0))) (fun _ hk => by first | exact hk.2 | (and_intros <;> first | exact hk | exact hk.1 | exact hk.2 | exact hk.1.1 | exact hk.1.2 | exact hk.2.1 | exact hk.2.2 | exact hk.1.1.1 | exact hk.1.1.2 | exact hk.2.2.1 | exact hk.2.2.2)) (.slice A171_1 ((rd_T71 x17_4 x21_6).f1).length c171_1)) (fun _ hk => by first | exact hk.2 | (and_intros <;> first | exact hk | exact hk.1 | exact hk.2 | exact hk.1.1 | exact hk.1.2 | exact hk.2.1 | exact hk.2.2 | exact hk.1.1.1 | exact hk.1.1.2 | exact hk.2.2.1 | exact hk.2.2.2)) (.bool ((rd_T71 x17_4 x21_6).f2))) (fun _ hk => by first | exact hk.2 | (and_intros <;> first | exact hk | exact hk.1 | exact hk.2 | exact hk.1.1 | exact hk.1.2 | exact hk.2.1 | exact hk.2.2 | exact hk.1.1.1 | exact hk.1.1.2 | exact hk.2.2.1 | exact hk.2.2.2)) (.slice A171_3 ((rd_T71 x17_4 x21_6).f3).length c171_3)) (fun _ hk => by first | exact ⟨hk.1.1.1, hk.1.1.2.1⟩ | (and_intros <;> first | exact hk | exact hk.1 | exact hk.2 | exact hk.1.1 | exact hk.1.2 | exact hk.2.1 | exact hk.2.2 | exact hk.1.1.1 | exact hk.1.1.2 | exact hk.2.2.1 | exact hk.2.2.2))⟩, ⟨by repeat (first | (with_reducible first | exact HB.out | apply below_alloc | apply pw_below_drewN | apply below_drew1 | refine below_set ?_ GE170.out | refine below_set ?_ GE172.out) | exact HB.out)⟩⟩
                                              case rest =>
                                                clear HC75
                                                try clear c1
                                                try clear p1
                                                try clear q1
                                                try clear hx1
                                                try clear qi1
                                                try clear c2
                                                try clear p2
                                                try clear q2
                                                try clear c3
                                                try clear c4
                                                try clear c5
                                                try clear c6
                                                try clear p6
                                                try clear c7
                                                try clear c8
                                                try clear c9
                                                try clear c9b0
                                                try clear c9b1
                                                try clear c10
                                                try clear c11
                                                try clear c11b0
                                                try clear c12
                                                try clear c12b0
                                                try clear p12
                                                try clear q12
                                                try clear hx12
                                                try clear c13
                                                try clear c14
                                                try clear c14b0
                                                try clear p14
                                                try clear q14
                                                try clear hx14
                                                try clear qi14
                                                try clear c15
                                                try clear p15
                                                try clear q15
                                                try clear hx15
                                                try clear c16
                                                try clear p16
                                                try clear q16
                                                try clear hx16
                                                try clear c17
                                                try clear c17b0
                                                try clear c17b1
                                                try clear p17
                                                try clear q17
                                                try clear hx17
                                                try clear c18
                                                try clear c18b0
                                                try clear c18b1
                                                try clear c19
                                                try clear c19b0
                                                try clear c19b1
                                                try clear c20
                                                try clear c21
                                                try clear c23
                                                try clear q23
                                                try clear c26
                                                try clear c27
                                                try clear c29
                                                try clear c30
                                                try clear c37
                                                try clear c37b0
                                                try clear c37b1
                                                try clear c38
                                                try clear c38b0
                                                try clear c38b1
                                                try clear c39
                                                try clear c39b0
                                                try clear c39b1
                                                try clear c42
                                                try clear c43
                                                try clear c43b0
                                                try clear c45
                                                try clear c45b0
                                                try clear c46
                                                try clear c46b0
                                                try clear c49
                                                try clear c49b0
                                                try clear c49b1
                                                try clear c50
                                                try clear c50b0
                                                try clear c51
                                                try clear c52
                                                try clear c55
                                                try clear c55b0
                                                try clear c56
                                                try clear c56b0
                                                try clear c58
                                                try clear c59
                                                try clear p64
                                                try clear c66
                                                try clear c66b0
                                                try clear c66b1
                                                try clear c68
                                                try clear c69
                                                try clear c69b0
                                                try clear c71
                                                try clear c71b0
                                                try clear c72
                                                try clear c72b0
                                                try clear c73
                                                try clear c73b0
                                                try clear c74
                                                try clear c74b0
                                                try clear c85
                                                try clear c90
                                                try clear c90b0
                                                try clear c90b1
                                                try clear c91
                                                try clear c91b0
                                                try clear c91b1
                                                try clear c91b2
                                                try clear c92
                                                try clear c96
                                                try clear c97
                                                try clear c100
                                                try clear c103
                                                try clear hcz101_0
                                                try clear hcz101_1
                                                try clear hcz101_2
                                                try clear hcz101_3
                                                try clear hcz102_0
                                                try clear hcz102_1
                                                try clear hcz102_2
                                                try clear hcz102_3
                                                try clear hcz104_0
                                                try clear hcz104_1
                                                try clear hcz104_2
                                                try clear hcz104_3
                                                try clear hcz105_0
                                                try clear hcz105_1
                                                try clear hcz105_2
                                                try clear hcz105_3
                                                try clear hcz78_0
                                                try clear hcz78_1
                                                try clear hcz78_2
                                                try clear hcz78_3
                                                try clear hcz86_0
                                                try clear hcz86_1
                                                try clear hcz86_2
                                                try clear hcz86_3
                                                try clear hcz93_0
                                                try clear hcz93_1
                                                try clear hcz93_2
                                                try clear hcz93_3
                                                try clear hcz94_0
                                                try clear hcz94_1
                                                try clear hcz94_2
                                                try clear hcz94_3
                                                try clear hcz98_0
                                                try clear hcz98_1
                                                try clear hcz98_2
                                                try clear hcz98_3
                                                try clear hcz99_0
                                                try clear hcz99_1
                                                try clear hcz99_2
                                                try clear hcz99_3
                                                try clear hfz101_0
                                                try clear hfz101_1
                                                try clear hfz101_2
                                                try clear hfz101_3
                                                try clear hfz102_0
                                                try clear hfz102_1
                                                try clear hfz102_2
                                                try clear hfz102_3
                                                try clear hfz104_0
                                                try clear hfz104_1
                                                try clear hfz104_2
                                                try clear hfz104_3
                                                try clear hfz105_0
                                                try clear hfz105_1
                                                try clear hfz105_2
                                                try clear hfz105_3
                                                try clear hfz78_0
                                                try clear hfz78_1
                                                try clear hfz78_2
                                                try clear hfz78_3
                                                try clear hfz86_0
                                                try clear hfz86_1
                                                try clear hfz86_2
                                                try clear hfz86_3
                                                try clear hfz93_0
                                                try clear hfz93_1
                                                try clear hfz93_2
                                                try clear hfz93_3
                                                try clear hfz94_0
                                                try clear hfz94_1
                                                try clear hfz94_2
                                                try clear hfz94_3
                                                try clear hfz98_0
                                                try clear hfz98_1
                                                try clear hfz98_2
                                                try clear hfz98_3
                                                try clear hfz99_0
                                                try clear hfz99_1
                                                try clear hfz99_2
                                                try clear hfz99_3
                                                try clear hx124_0
                                                try clear hx147_0
                                                try clear hx147_1
                                                try clear hx147_2
                                                try clear hx147_3
                                                try clear hx148_0
                                                try clear hx148_1
                                                try clear hx148_2
                                                try clear hx148_3
                                                try clear hx149_0
                                                try clear hx149_1
                                                try clear hx149_2
                                                try clear hx153_0
                                                try clear hx153_1
                                                try clear hx153_2
                                                try clear hx153_3
                                                try clear hx157_0
                                                try clear hx169_0
                                                try clear hx169_1
                                                try clear hx169_2
                                                try clear hx169_3
                                                try clear hx171_0
                                                try clear hx171_1
                                                try clear hx171_2
                                                try clear hx171_3
                                                try clear p1
                                                try clear p12
                                                try clear p124
                                                try clear p14
                                                try clear p147
                                                try clear p148
                                                try clear p149
                                                try clear p15
                                                try clear p153
                                                try clear p157
                                                try clear p169
                                                try clear p171
                                                try clear p2
                                                try clear p6
                                                try clear p64
                                                try clear q023
                                                try clear q1
                                                try clear q12
                                                try clear q124
                                                try clear q14
                                                try clear q147
                                                try clear q148
                                                try clear q149
                                                try clear q15
                                                try clear q153
                                                try clear q157
                                                try clear q169
                                                try clear q171
                                                try clear q2
                                                try clear q23
                                                obtain ⟨kq, x192_74, rfl, HA, HJ74, HO_16, HO_17, HO_19, HB⟩ := hcut
                                                cases kq with
                                                | zero => exact absurd HA.out (by simp [packthreadkeep_FetchStill.j7])
                                                | succ kj74 =>
                                                  have H := HA.out
                                                  clear HA
                                                  simp only [packthreadkeep_FetchStill.j7] at H
                                                  by_cases c106 : x192_74 = true
                                                  · subst c106
                                                    have H1 : (some false) = some r := by rw [if_pos rfl] at H; exact H
                                                    clear H
                                                    have H := H1
                                                    clear H1
                                                    obtain rfl := Option.some.inj H
                                                    go_wp2
                                                    go_ret
                                                    exact ⟨by first | rfl | (simp [errW_none, errW_some] <;> rfl) | (simp only [← hji70]; first | rfl | (simp [errW_none, errW_some] <;> rfl)) | (simp [*, errW_none, errW_some] <;> rfl), by repeat (first | (with_reducible first | exact HB.out | apply below_alloc | apply pw_below_drewN | apply below_drew1) | exact HB.out)⟩
                                                  · replace c106 := Bool.eq_false_iff.mpr c106
                                                    subst c106
                                                    have H1 : (packthreadkeep_FetchStill.l2 kj74 x16_4 x17_4 t165 (wrap64 (x21_6 + 1))) = some r := by rw [if_neg (show ¬ (false = true) by decide)] at H; exact H
                                                    clear H
                                                    have H := H1
                                                    clear H1
                                                    have H' := Aside0.mk H
                                                    clear H
                                                    go_wp2
                                                    go_roundg kj74
                                                    case measure => have := HK1.out; have := HJ7.out; have := HJ31.out; have := HK4.out; have := HJ62.out; have := HK6.out; have := HJ74.out; omega
                                                    case rel => exact ⟨(wrap64 (x21_6 + 1)), (by first | rfl | (simp; done) | (simp [*]; done)), H', ⟨by have := HK1.out; have := HJ7.out; have := HJ31.out; have := HK4.out; have := HJ62.out; have := HK6.out; have := HJ74.out; omega⟩, ⟨by (with_reducible repeat (first | apply Kd.N_alloc | apply Kd.N_drewN | apply Kd.N_drew)); exact HO_16.out⟩, ⟨by (with_reducible repeat (first | apply Kd.N_alloc | apply Kd.N_drewN | apply Kd.N_drew)); exact HO_17.out⟩, ⟨by (with_reducible repeat (first | apply Kd.N_alloc | apply Kd.N_drewN | apply Kd.N_drew)); exact HO_19.out⟩, ⟨by repeat (first | (with_reducible first | exact HB.out | apply below_alloc | apply pw_below_drewN | apply below_drew1) | exact HB.out)⟩⟩
                                            · rw [if_neg c74] at H
                                              exact absurd H (by simp)
                                          · rw [if_neg c73] at H
                                            exact absurd H (by simp)
                                        · rw [if_neg c72] at H
                                          exact absurd H (by simp)
                                      · rw [if_neg c71] at H
                                        exact absurd H (by simp)
                                    · rw [if_neg c69] at H
                                      have c69b0 : decide (x21_6 < (x16_4.length : Int)) = false := decide_eq_false c69
                                      clear c69
                                      obtain rfl := Option.some.inj H
                                      go_wp2
                                      go_ret
                                      exact ⟨by first | rfl | (simp [errW_none, errW_some] <;> rfl) | (simp [*, errW_none, errW_some] <;> rfl), by repeat (first | (with_reducible first | exact HB.out | apply below_alloc | apply pw_below_drewN | apply below_drew1) | exact HB.out)⟩
            · rw [if_neg c30] at H
              exact absurd H (by simp)

/-- THE ONE PURE STATEMENT of packthreadkeep_FetchStill: yours. -/
def packthreadkeep_FetchStill.Pure : Prop := ∀ (a0 : Int) (a1 : Int) (l2 : List Int) (l3 : List Int), (Lit.int .i64 a0).wf = true → (Lit.int .i64 a1).wf = true → l2.length ≤ maxLen → l2.length * 8 ≤ 140737488351232 → (∀ x ∈ l2, (Lit.int .i64 x).wf = true) → l3.length ≤ maxLen → l3.length * 8 ≤ 140737488351232 → (∀ x ∈ l3, (Lit.int .i64 x).wf = true) → ∃ k, packthreadkeep_FetchStill.f k a0 a1 l2 l3 = some true
theorem packthreadkeep_FetchStill.walk (P : packthreadkeep_FetchStill.Pure) (a0 : Int) (a1 : Int) (a2 : Option Addr) (len2 cap2 : Nat) (z2 : List Int) (a3 : Option Addr) (len3 cap3 : Nat) (z3 : List Int) (w : World) (w0 : (Lit.int .i64 a0).wf = true) (w1 : (Lit.int .i64 a1).wf = true) (w2 : (a2 = none ∧ len2 = 0 ∧ cap2 = 0 ∧ z2 = []) ∨ ∃ x, a2 = some x ∧ len2 ≤ cap2 ∧ cap2 ≤ maxLen ∧ z2.length = cap2 ∧ (∀ i, i < z2.length → w.cell? (x.add i) = some (.int .i64 (z2.getD i 0))) ∧ ∀ n ∈ z2, (Lit.int .i64 n).wf = true) (y2 : len2 * 8 ≤ 140737488351232) (w3 : (a3 = none ∧ len3 = 0 ∧ cap3 = 0 ∧ z3 = []) ∨ ∃ x, a3 = some x ∧ len3 ≤ cap3 ∧ cap3 ≤ maxLen ∧ z3.length = cap3 ∧ (∀ i, i < z3.length → w.cell? (x.add i) = some (.int .i64 (z3.getD i 0))) ∧ ∀ n ∈ z3, (Lit.int .i64 n).wf = true) (y3 : len3 * 8 ≤ 140737488351232) :
    Calls Try.prog 13 #[.int .i64 a0, .int .i64 a1, .slice a2 len2 cap2, .slice a3 len3 cap3] w fun e w' => e = .returned (.bool true) ∧ Below w.heap.size w w' := by
  obtain ⟨l2, rfl, hr2, hm2, hw2, hc2⟩ := ReadsInt.ofRowC w2
  obtain ⟨l3, rfl, hr3, hm3, hw3, hc3⟩ := ReadsInt.ofRowC w3
  obtain ⟨k, h⟩ := P a0 a1 l2 l3 w0 w1 hm2 y2 hw2 hm3 y3 hw3
  refine (packthreadkeep_FetchStill.calls k a0 a1 _ _ l2 _ _ l3 true w (Kd.C_of_reads (d := (0 : Int)) (h1 := fun _ => rfl) hr2) hc2 (Kd.C_of_reads (d := (0 : Int)) (h1 := fun _ => rfl) hr3) hc3 h).mono ?_
  rintro e w' ⟨rfl, hd⟩
  exact ⟨rfl, hd⟩

end Go.Proofs.Ytlgehakaedokeaa.PFetchStill
