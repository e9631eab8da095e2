/- Printed by a program of this session (wip/myprint.py): Go functions of the law as Lean functions, and the proof that the code comes to these answers. -/
import Derived.Test.YtjbilachfipicaaPRecvTwicex0
import Derived.Test.YtjbilachfipicaaPRecvTwicex2
import Derived.Test.YtjbilachfipicaaPRecvTwicex6
namespace Go.Proofs.Ytjbilachfipicaa.PRecvTwice
open Go.RowKit Go.Proofs.YtjbilachfipicaaW.PrintWords Go.Proofs.YtjbilachfipicaaW.PrintLast Go.Proofs.YtjbilachfipicaaW.PrintMore
attribute [local go_sem] max2_int min2_int max_two min_two max_three min_three max_four min_four   -- for this text's walks alone
attribute [local go_sem] pn_setCell_drewN
set_option linter.unusedVariables false
set_option linter.unusedSimpArgs false

/-! ### packthreadkeep_RecvTwice: function 5 -/
mutual
def packthreadkeep_RecvTwice.l0 : Nat → Int → Int → Int → List (S38) → Int → Int → Option (Bool)
  | 0, _, _, _, _, _, _ => none
  | k + 1, x4, x5, x13, x15, x16, x17 => if x17 < x16 then (if 0 ≤ x17 then (if x17 < (x15.length : Int) then (if ((rd_T38 x15 x17).f0) = 2 then (packthreadkeep_RecvTwice.l0 k x4 x5 x13 (x15.set (x17 : Int).toNat (⟨(rd_T38 x15 x17).f0, (rd_T38 x15 x17).f1, (rd_T38 x15 x17).f2, (rd_T38 x15 x17).f3, 0⟩ : S38)) x16 (wrap64 (x17 + 1))) else (packthreadkeep_RecvTwice.l0 k x4 x5 x13 x15 x16 (wrap64 (x17 + 1)))) else (none)) else (none)) else (packthreadkeep_RecvTwice.l1 k x4 x5 x13 x15 x16 ([] : List (S38)) 0)
def packthreadkeep_RecvTwice.l1 : Nat → Int → Int → Int → List (S38) → Int → List (S38) → Int → Option (Bool)
  | 0, _, _, _, _, _, _, _ => none
  | k + 1, x4, x5, x13, x15, x16, x18, x19 => if x19 < x16 then (if 0 ≤ x19 then (if x19 < (x15.length : Int) then (if x18.length < 2513169434916 then ((some (x18 ++ [(⟨(rd_T38 x15 x19).f0, (rd_T38 x15 x19).f1, (rd_T38 x15 x19).f2, (rd_T38 x15 x19).f3, (rd_T38 x15 x19).f4⟩ : S38)] : List (S38))).bind fun y234 => (if ((rd_T38 x15 x19).f0) = 1 then ((packthreadkeep_Picked.f (wrap64 (x4 + x19)) 3).bind fun t238 => (packthreadkeep_RecvTwice.j2 k x4 x5 x13 x15 x16 y234 x19 (t238 == 0))) else (packthreadkeep_RecvTwice.j2 k x4 x5 x13 x15 x16 y234 x19 false))) else (none)) else (none)) else (none)) else (if x15.length < 2513169434916 then (if x18.length < 2513169434916 then ((packthreadkeep_hearer.f k x13 (x15 ++ [(⟨2, 0, ([] : List Int), false, 4096⟩ : S38)])).bind fun bt255 => ((packthreadkeep_hearer.f k x13 (x18 ++ [(⟨2, 0, ([] : List Int), false, 4096⟩ : S38)])).bind fun bt259 => (if bt255.2 = true then (packthreadkeep_RecvTwice.j4 k bt255.1 bt259.1 (!bt259.2)) else (packthreadkeep_RecvTwice.j4 k bt255.1 bt259.1 true)))) else (none)) else (none))
def packthreadkeep_RecvTwice.j2 : Nat → Int → Int → Int → List (S38) → Int → List (S38) → Int → Bool → Option (Bool)
  | 0, _, _, _, _, _, _, _, _ => none
  | k + 1, x4, x5, x13, x15, x16, x18, x19, x80 => if x80 = true then (if 0 ≤ x19 then (if x19 < (x15.length : Int) then (if ([] : List Int).length + ((rd_T38 x15 x19).f2).length < 140737488355328 then (packthreadkeep_RecvTwice.l2 k x4 x5 x13 x15 x16 x18 x19 0 ((rd_T38 x15 x19).f0) ((rd_T38 x15 x19).f1) (([] : List Int) ++ ((rd_T38 x15 x19).f2)) ((rd_T38 x15 x19).f3) ((rd_T38 x15 x19).f4)) else (none)) else (none)) else (none)) else (packthreadkeep_RecvTwice.l1 k x4 x5 x13 x15 x16 x18 (wrap64 (x19 + 1)))
def packthreadkeep_RecvTwice.l2 : Nat → Int → Int → Int → List (S38) → Int → List (S38) → Int → Int → Int → Int → List Int → Bool → Int → Option (Bool)
  | 0, _, _, _, _, _, _, _, _, _, _, _, _, _ => none
  | k + 1, x4, x5, x13, x15, x16, x18, x19, x21, x241000, x241001, x241002, x241003, x241004 => if x21 < (x241002.length : Int) then (if 0 ≤ x21 then (packthreadkeep_RecvTwice.l2 k x4 x5 x13 x15 x16 x18 x19 (wrap64 (x21 + 1)) x241000 x241001 (x241002.set (x21 : Int).toNat (Go.bits .xor .u8 (rd x241002 x21) x5)) x241003 x241004) else (none)) else (if x18.length < 2513169434916 then (packthreadkeep_RecvTwice.l1 k x4 x5 x13 x15 x16 (x18 ++ [(⟨x241000, x241001, x241002, x241003, x241004⟩ : S38)]) (wrap64 (x19 + 1))) else (none))
def packthreadkeep_RecvTwice.j4 : Nat → List (S34) → List (S34) → Bool → Option (Bool)
  | 0, _, _, _ => none
  | k + 1, x22, x24, x133 => if x133 = true then (some false) else (if 0 ≤ (wrap64 ((x22.length : Int) - 1)) then (if (wrap64 ((x22.length : Int) - 1)) < (x22.length : Int) then (if 0 ≤ (wrap64 ((x24.length : Int) - 1)) then (if (wrap64 ((x24.length : Int) - 1)) < (x24.length : Int) then ((packthreadkeep_sameBytes.f k ((rd_T34 x22 (wrap64 ((x22.length : Int) - 1))).f4) ((rd_T34 x24 (wrap64 ((x24.length : Int) - 1))).f4)).bind fun t267 => (if t267 = true then (if ((rd_T34 x22 (wrap64 ((x22.length : Int) - 1))).f1) = ((rd_T34 x24 (wrap64 ((x24.length : Int) - 1))).f1) then ((packthreadkeep_sameRanges.f k ((rd_T34 x22 (wrap64 ((x22.length : Int) - 1))).f3) ((rd_T34 x24 (wrap64 ((x24.length : Int) - 1))).f3)).bind fun t268 => (some t268)) else (some false)) else (some false))) else (none)) else (none)) else (none)) else (none))
end
def packthreadkeep_RecvTwice.f (k : Nat) (a0 : Int) (a1 : Int) (a2 : Int) (l3 : List Int) (a4 : Int) (a5 : Int) : Option (Bool) := (packthreadkeep_Picked.f a0 300).bind fun t223 => ((packthreadkeep_Picked.f a2 300).bind fun t224 => ((packthreadkeep_Stream.f k a1 (wrap64 (1 + t224))).bind fun t225 => ((packthreadkeep_Arrivals.f k l3 t225 80 false).bind fun t228 => (packthreadkeep_RecvTwice.l0 k a4 a5 (wrap64 (1 + t223)) t228 (t228.length : Int) 0))))
theorem packthreadkeep_RecvTwice.mono_l : ∀ k, (∀ y0 y1 y2 y3 y4 y5, LeO (packthreadkeep_RecvTwice.l0 k y0 y1 y2 y3 y4 y5) (packthreadkeep_RecvTwice.l0 (k + 1) y0 y1 y2 y3 y4 y5)) ∧ (∀ y0 y1 y2 y3 y4 y5 y6, LeO (packthreadkeep_RecvTwice.l1 k y0 y1 y2 y3 y4 y5 y6) (packthreadkeep_RecvTwice.l1 (k + 1) y0 y1 y2 y3 y4 y5 y6)) ∧ (∀ y0 y1 y2 y3 y4 y5 y6 y7, LeO (packthreadkeep_RecvTwice.j2 k y0 y1 y2 y3 y4 y5 y6 y7) (packthreadkeep_RecvTwice.j2 (k + 1) y0 y1 y2 y3 y4 y5 y6 y7)) ∧ (∀ y0 y1 y2 y3 y4 y5 y6 y7 y8 y9 y10 y11 y12, LeO (packthreadkeep_RecvTwice.l2 k y0 y1 y2 y3 y4 y5 y6 y7 y8 y9 y10 y11 y12) (packthreadkeep_RecvTwice.l2 (k + 1) y0 y1 y2 y3 y4 y5 y6 y7 y8 y9 y10 y11 y12)) ∧ (∀ y0 y1 y2, LeO (packthreadkeep_RecvTwice.j4 k y0 y1 y2) (packthreadkeep_RecvTwice.j4 (k + 1) y0 y1 y2))
  | 0 => ⟨fun _ _ _ _ _ _ r h => by simp [packthreadkeep_RecvTwice.l0] at h, fun _ _ _ _ _ _ _ r h => by simp [packthreadkeep_RecvTwice.l1] at h, fun _ _ _ _ _ _ _ _ r h => by simp [packthreadkeep_RecvTwice.j2] at h, fun _ _ _ _ _ _ _ _ _ _ _ _ _ r h => by simp [packthreadkeep_RecvTwice.l2] at h, fun _ _ _ r h => by simp [packthreadkeep_RecvTwice.j4] at h⟩
  | k + 1 => by
    obtain ⟨ih0, ih1, ih2, ih3, ih4⟩ := packthreadkeep_RecvTwice.mono_l k
    refine ⟨?_, ?_, ?_, ?_, ?_⟩
    · intro y0 y1 y2 y3 y4 y5
      unfold packthreadkeep_RecvTwice.l0
      repeat' first
      | (with_reducible exact ih0 _ _ _ _ _ _)
      | (with_reducible exact ih1 _ _ _ _ _ _ _)
      | (with_reducible exact ih2 _ _ _ _ _ _ _ _)
      | (with_reducible exact ih3 _ _ _ _ _ _ _ _ _ _ _ _ _)
      | (with_reducible exact ih4 _ _ _)
      | (with_reducible exact packthreadkeep_Arrivals.mono _ _ _ _ _)
      | (with_reducible exact packthreadkeep_Stream.mono _ _ _)
      | (with_reducible exact packthreadkeep_hearer.mono _ _ _)
      | (with_reducible exact packthreadkeep_sameBytes.mono _ _ _)
      | (with_reducible exact packthreadkeep_sameRanges.mono _ _ _)
      | (with_reducible exact LeO.refl _)
      | (with_reducible exact LeO.none _)
      | (with_reducible refine LeO.ite ?_ ?_)
      | (with_reducible refine LeO.bind ?_ (fun _ => ?_))
      | exact ih0 _ _ _ _ _ _
      | exact ih1 _ _ _ _ _ _ _
      | exact ih2 _ _ _ _ _ _ _ _
      | exact ih3 _ _ _ _ _ _ _ _ _ _ _ _ _
      | exact ih4 _ _ _
      | exact packthreadkeep_Arrivals.mono _ _ _ _ _
      | exact packthreadkeep_Stream.mono _ _ _
      | exact packthreadkeep_hearer.mono _ _ _
      | exact packthreadkeep_sameBytes.mono _ _ _
      | exact packthreadkeep_sameRanges.mono _ _ _
      | exact LeO.none _
      | refine LeO.ite ?_ ?_
      | refine LeO.bind ?_ (fun _ => ?_)
    · intro y0 y1 y2 y3 y4 y5 y6
      unfold packthreadkeep_RecvTwice.l1
      repeat' first
      | (with_reducible exact ih0 _ _ _ _ _ _)
      | (with_reducible exact ih1 _ _ _ _ _ _ _)
      | (with_reducible exact ih2 _ _ _ _ _ _ _ _)
      | (with_reducible exact ih3 _ _ _ _ _ _ _ _ _ _ _ _ _)
      | (with_reducible exact ih4 _ _ _)
      | (with_reducible exact packthreadkeep_Arrivals.mono _ _ _ _ _)
      | (with_reducible exact packthreadkeep_Stream.mono _ _ _)
      | (with_reducible exact packthreadkeep_hearer.mono _ _ _)
      | (with_reducible exact packthreadkeep_sameBytes.mono _ _ _)
      | (with_reducible exact packthreadkeep_sameRanges.mono _ _ _)
      | (with_reducible exact LeO.refl _)
      | (with_reducible exact LeO.none _)
      | (with_reducible refine LeO.ite ?_ ?_)
      | (with_reducible refine LeO.bind ?_ (fun _ => ?_))
      | exact ih0 _ _ _ _ _ _
      | exact ih1 _ _ _ _ _ _ _
      | exact ih2 _ _ _ _ _ _ _ _
      | exact ih3 _ _ _ _ _ _ _ _ _ _ _ _ _
      | exact ih4 _ _ _
      | exact packthreadkeep_Arrivals.mono _ _ _ _ _
      | exact packthreadkeep_Stream.mono _ _ _
      | exact packthreadkeep_hearer.mono _ _ _
      | exact packthreadkeep_sameBytes.mono _ _ _
      | exact packthreadkeep_sameRanges.mono _ _ _
      | exact LeO.none _
      | refine LeO.ite ?_ ?_
      | refine LeO.bind ?_ (fun _ => ?_)
    · intro y0 y1 y2 y3 y4 y5 y6 y7
      unfold packthreadkeep_RecvTwice.j2
      repeat' first
      | (with_reducible exact ih0 _ _ _ _ _ _)
      | (with_reducible exact ih1 _ _ _ _ _ _ _)
      | (with_reducible exact ih2 _ _ _ _ _ _ _ _)
      | (with_reducible exact ih3 _ _ _ _ _ _ _ _ _ _ _ _ _)
      | (with_reducible exact ih4 _ _ _)
      | (with_reducible exact packthreadkeep_Arrivals.mono _ _ _ _ _)
      | (with_reducible exact packthreadkeep_Stream.mono _ _ _)
      | (with_reducible exact packthreadkeep_hearer.mono _ _ _)
      | (with_reducible exact packthreadkeep_sameBytes.mono _ _ _)
      | (with_reducible exact packthreadkeep_sameRanges.mono _ _ _)
      | (with_reducible exact LeO.refl _)
      | (with_reducible exact LeO.none _)
      | (with_reducible refine LeO.ite ?_ ?_)
      | (with_reducible refine LeO.bind ?_ (fun _ => ?_))
      | exact ih0 _ _ _ _ _ _
      | exact ih1 _ _ _ _ _ _ _
      | exact ih2 _ _ _ _ _ _ _ _
      | exact ih3 _ _ _ _ _ _ _ _ _ _ _ _ _
      | exact ih4 _ _ _
      | exact packthreadkeep_Arrivals.mono _ _ _ _ _
      | exact packthreadkeep_Stream.mono _ _ _
      | exact packthreadkeep_hearer.mono _ _ _
      | exact packthreadkeep_sameBytes.mono _ _ _
      | exact packthreadkeep_sameRanges.mono _ _ _
      | exact LeO.none _
      | refine LeO.ite ?_ ?_
      | refine LeO.bind ?_ (fun _ => ?_)
    · intro y0 y1 y2 y3 y4 y5 y6 y7 y8 y9 y10 y11 y12
      unfold packthreadkeep_RecvTwice.l2
      repeat' first
      | (with_reducible exact ih0 _ _ _ _ _ _)
      | (with_reducible exact ih1 _ _ _ _ _ _ _)
      | (with_reducible exact ih2 _ _ _ _ _ _ _ _)
      | (with_reducible exact ih3 _ _ _ _ _ _ _ _ _ _ _ _ _)
      | (with_reducible exact ih4 _ _ _)
      | (with_reducible exact packthreadkeep_Arrivals.mono _ _ _ _ _)
      | (with_reducible exact packthreadkeep_Stream.mono _ _ _)
      | (with_reducible exact packthreadkeep_hearer.mono _ _ _)
      | (with_reducible exact packthreadkeep_sameBytes.mono _ _ _)
      | (with_reducible exact packthreadkeep_sameRanges.mono _ _ _)
      | (with_reducible exact LeO.refl _)
      | (with_reducible exact LeO.none _)
      | (with_reducible refine LeO.ite ?_ ?_)
      | (with_reducible refine LeO.bind ?_ (fun _ => ?_))
      | exact ih0 _ _ _ _ _ _
      | exact ih1 _ _ _ _ _ _ _
      | exact ih2 _ _ _ _ _ _ _ _
      | exact ih3 _ _ _ _ _ _ _ _ _ _ _ _ _
      | exact ih4 _ _ _
      | exact packthreadkeep_Arrivals.mono _ _ _ _ _
      | exact packthreadkeep_Stream.mono _ _ _
      | exact packthreadkeep_hearer.mono _ _ _
      | exact packthreadkeep_sameBytes.mono _ _ _
      | exact packthreadkeep_sameRanges.mono _ _ _
      | exact LeO.none _
      | refine LeO.ite ?_ ?_
      | refine LeO.bind ?_ (fun _ => ?_)
    · intro y0 y1 y2
      unfold packthreadkeep_RecvTwice.j4
      repeat' first
      | (with_reducible exact ih0 _ _ _ _ _ _)
      | (with_reducible exact ih1 _ _ _ _ _ _ _)
      | (with_reducible exact ih2 _ _ _ _ _ _ _ _)
      | (with_reducible exact ih3 _ _ _ _ _ _ _ _ _ _ _ _ _)
      | (with_reducible exact ih4 _ _ _)
      | (with_reducible exact packthreadkeep_Arrivals.mono _ _ _ _ _)
      | (with_reducible exact packthreadkeep_Stream.mono _ _ _)
      | (with_reducible exact packthreadkeep_hearer.mono _ _ _)
      | (with_reducible exact packthreadkeep_sameBytes.mono _ _ _)
      | (with_reducible exact packthreadkeep_sameRanges.mono _ _ _)
      | (with_reducible exact LeO.refl _)
      | (with_reducible exact LeO.none _)
      | (with_reducible refine LeO.ite ?_ ?_)
      | (with_reducible refine LeO.bind ?_ (fun _ => ?_))
      | exact ih0 _ _ _ _ _ _
      | exact ih1 _ _ _ _ _ _ _
      | exact ih2 _ _ _ _ _ _ _ _
      | exact ih3 _ _ _ _ _ _ _ _ _ _ _ _ _
      | exact ih4 _ _ _
      | exact packthreadkeep_Arrivals.mono _ _ _ _ _
      | exact packthreadkeep_Stream.mono _ _ _
      | exact packthreadkeep_hearer.mono _ _ _
      | exact packthreadkeep_sameBytes.mono _ _ _
      | exact packthreadkeep_sameRanges.mono _ _ _
      | exact LeO.none _
      | refine LeO.ite ?_ ?_
      | refine LeO.bind ?_ (fun _ => ?_)
theorem packthreadkeep_RecvTwice.mono : ∀ a0 a1 a2 a3 a4 a5 k, LeO (packthreadkeep_RecvTwice.f k a0 a1 a2 a3 a4 a5) (packthreadkeep_RecvTwice.f (k + 1) a0 a1 a2 a3 a4 a5) := by
  intro a0 a1 a2 a3 a4 a5 k
  obtain ⟨ih0, ih1, ih2, ih3, ih4⟩ := packthreadkeep_RecvTwice.mono_l k
  unfold packthreadkeep_RecvTwice.f
  repeat' first
      | (with_reducible exact ih0 _ _ _ _ _ _)
      | (with_reducible exact ih1 _ _ _ _ _ _ _)
      | (with_reducible exact ih2 _ _ _ _ _ _ _ _)
      | (with_reducible exact ih3 _ _ _ _ _ _ _ _ _ _ _ _ _)
      | (with_reducible exact ih4 _ _ _)
      | (with_reducible exact packthreadkeep_Arrivals.mono _ _ _ _ _)
      | (with_reducible exact packthreadkeep_Stream.mono _ _ _)
      | (with_reducible exact packthreadkeep_hearer.mono _ _ _)
      | (with_reducible exact packthreadkeep_sameBytes.mono _ _ _)
      | (with_reducible exact packthreadkeep_sameRanges.mono _ _ _)
      | (with_reducible exact LeO.refl _)
      | (with_reducible exact LeO.none _)
      | (with_reducible refine LeO.ite ?_ ?_)
      | (with_reducible refine LeO.bind ?_ (fun _ => ?_))
      | exact ih0 _ _ _ _ _ _
      | exact ih1 _ _ _ _ _ _ _
      | exact ih2 _ _ _ _ _ _ _ _
      | exact ih3 _ _ _ _ _ _ _ _ _ _ _ _ _
      | exact ih4 _ _ _
      | exact packthreadkeep_Arrivals.mono _ _ _ _ _
      | exact packthreadkeep_Stream.mono _ _ _
      | exact packthreadkeep_hearer.mono _ _ _
      | exact packthreadkeep_sameBytes.mono _ _ _
      | exact packthreadkeep_sameRanges.mono _ _ _
      | exact LeO.none _
      | refine LeO.ite ?_ ?_
      | refine LeO.bind ?_ (fun _ => ?_)
set_option maxHeartbeats 8000000 in
set_option maxRecDepth 100000 in
theorem packthreadkeep_RecvTwice.calls (k : Nat) (a0 : Int) (a1 : Int) (a2 : Int) (A3 : Option Addr) (c3 : Nat) (l3 : List Int) (a4 : Int) (a5 : Int) (r : Bool) (w : World) (hr3 : Kd.C (Kd.int .i64) w A3 l3.length l3) (hc3 : l3.length ≤ c3) (h : packthreadkeep_RecvTwice.f k a0 a1 a2 l3 a4 a5 = some r) :
    Calls Try.prog 5 #[.int .i64 a0, .int .i64 a1, .int .i64 a2, .slice A3 l3.length c3, .int .i64 a4, .int .u8 a5] w fun e w' => e = .returned (.bool r) ∧ Below w.heap.size w w' := by
  have hu38 := Try.underlying38
  have hu34 := Try.underlying34
  have HR3 := Aside0.mk hr3
  have HC3 := Aside0.mk hc3
  clear hr3 hc3
  have HB := Aside0.mk (Below.refl w.heap.size w)
  have H : ((packthreadkeep_Picked.f a0 300).bind fun t223 => ((packthreadkeep_Picked.f a2 300).bind fun t224 => ((packthreadkeep_Stream.f k a1 (wrap64 (1 + t224))).bind fun t225 => ((packthreadkeep_Arrivals.f k l3 t225 80 false).bind fun t228 => (packthreadkeep_RecvTwice.l0 k a4 a5 (wrap64 (1 + t223)) t228 (t228.length : Int) 0))))) = some r := h
  clear h
  replace H := Option.bind_eq_some_iff.mp H
  obtain ⟨t223, A70, H⟩ := H
  replace H : ((packthreadkeep_Picked.f a2 300).bind fun t224 => ((packthreadkeep_Stream.f k a1 (wrap64 (1 + t224))).bind fun t225 => ((packthreadkeep_Arrivals.f k l3 t225 80 false).bind fun t228 => (packthreadkeep_RecvTwice.l0 k a4 a5 (wrap64 (1 + t223)) t228 (t228.length : Int) 0)))) = some r := H
  have A7 := Aside0.mk A70
  clear A70
  replace H := Option.bind_eq_some_iff.mp H
  obtain ⟨t224, A80, H⟩ := H
  replace H : ((packthreadkeep_Stream.f k a1 (wrap64 (1 + t224))).bind fun t225 => ((packthreadkeep_Arrivals.f k l3 t225 80 false).bind fun t228 => (packthreadkeep_RecvTwice.l0 k a4 a5 (wrap64 (1 + t223)) t228 (t228.length : Int) 0))) = some r := H
  have A8 := Aside0.mk A80
  clear A80
  replace H := Option.bind_eq_some_iff.mp H
  obtain ⟨t225, A90, H⟩ := H
  replace H : ((packthreadkeep_Arrivals.f k l3 t225 80 false).bind fun t228 => (packthreadkeep_RecvTwice.l0 k a4 a5 (wrap64 (1 + t223)) t228 (t228.length : Int) 0)) = some r := H
  have A9 := Aside0.mk A90
  clear A90
  replace H := Option.bind_eq_some_iff.mp H
  obtain ⟨t228, A100, H⟩ := H
  replace H : (packthreadkeep_RecvTwice.l0 k a4 a5 (wrap64 (1 + t223)) t228 (t228.length : Int) 0) = some r := H
  have A10 := Aside0.mk A100
  clear A100
  have H' := Aside0.mk H
  clear H
  go_enter Try.func5, Try.ntmps5
  go_wp2_with (first | ((with_reducible refine gate_callee (f := 14) rfl ?_); refine goesL_ (some 29) rfl rfl Try.func14 (by kernel_rfl) rfl #[.int .i64 a0, .int .i64 300] rfl (by (try simp only [List.map_toArray, List.map_cons, List.map_nil]); first | done | rfl | (simp only [List.length_drop, List.length_take]; rfl)) ?_; (with_reducible refine (packthreadkeep_Picked.calls a0 300 t223 _ A7.out).mono ?_); rintro e w' ⟨rfl, ⟨nd, rfl⟩⟩; refine ⟨_, rfl, ?_⟩) | ((with_reducible refine gate_callee (f := 14) rfl ?_); refine goesL_ (some 33) rfl rfl Try.func14 (by kernel_rfl) rfl #[.int .i64 a2, .int .i64 300] rfl (by (try simp only [List.map_toArray, List.map_cons, List.map_nil]); first | done | rfl | (simp only [List.length_drop, List.length_take]; rfl)) ?_; (with_reducible refine (packthreadkeep_Picked.calls a2 300 t224 _ A8.out).mono ?_); rintro e w' ⟨rfl, ⟨nd, rfl⟩⟩; refine ⟨_, rfl, ?_⟩) | ((with_reducible refine gate_callee (f := 15) rfl ?_); refine goesL_ (some 35) rfl rfl Try.func15 (by kernel_rfl) rfl #[.int .i64 a1, .int .i64 (wrap64 (1 + t224))] rfl (by (try simp only [List.map_toArray, List.map_cons, List.map_nil]); first | done | rfl | (simp only [List.length_drop, List.length_take]; rfl)) ?_; (with_reducible refine (packthreadkeep_Stream.calls k a1 (wrap64 (1 + t224)) t225 _ A9.out).mono ?_); rintro e w11 ⟨v226, rfl, ho0, hb⟩; refine ⟨_, rfl, ?_⟩; have n0_ := Aside0.mk (Kd.R_lower ho0 (below_size (by repeat (first | (with_reducible first | exact HB.out | apply below_alloc | apply pw_below_drewN | apply below_drew1) | exact HB.out)))); have n1_ := Aside0.mk (below_step (by repeat (first | (with_reducible first | exact HB.out | apply below_alloc | apply pw_below_drewN | apply below_drew1) | exact HB.out)) hb); clear HB; have HO227 := n0_; have HB := n1_; clear n0_ n1_; (try clear hb); (try clear hb2); (try clear hk); (try clear hi); (try clear ho0); obtain ⟨Ao12, co12, eo12⟩ := Kd.R_slice HO227.out; subst eo12) | ((with_reducible refine gate_callee (f := 16) rfl ?_); refine goesL_ (some 38) rfl rfl Try.func16 (by kernel_rfl) rfl #[.slice A3 l3.length c3, .slice Ao12 t225.length co12, .int .i64 80, .bool false] rfl (by (try simp only [List.map_toArray, List.map_cons, List.map_nil]); first | done | rfl | (simp only [List.length_drop, List.length_take]; rfl)) ?_; (with_reducible refine (packthreadkeep_Arrivals.calls k _ _ l3 _ _ t225 80 false t228 _ ?side1 ?side2 ?side3 ?side4 A10.out).mono ?_); (case side1 => repeat (first | exact (Kd.C_below HR3.out HB.out) | (with_reducible refine Kd.C_alloc ?_ _) | (with_reducible refine Kd.C_drewN ?_ _) | (with_reducible refine Kd.C_drew ?_))); (case side2 => exact HC3.out); (case side3 => repeat (first | exact (Kd.R_reads' HO227.out).2.2 | (with_reducible refine Kd.C_alloc ?_ _) | (with_reducible refine Kd.C_drewN ?_ _) | (with_reducible refine Kd.C_drew ?_))); (case side4 => exact (Kd.R_reads' HO227.out).2.1); rintro e w13 ⟨v229, rfl, ho0, hb⟩; refine ⟨_, rfl, ?_⟩; have n0_ := Aside0.mk (Kd.R_below (by (with_reducible repeat (first | apply Kd.R_alloc | apply Kd.R_drewN | apply Kd.R_drew)); exact HO227.out) hb); have n1_ := Aside0.mk (Kd.N_lower (Kd.N_mono (ok' := fun k_ => some k_ ≠ (.slice Ao12 t225.length co12 : Value).ownBlock) (Kd.S_N (Kd.S_bound ho0)) (fun k_ hk_ => (Kd.fresh' (Kd.R_lt (by (with_reducible repeat (first | apply Kd.R_alloc | apply Kd.R_drewN | apply Kd.R_drew)); exact HO227.out)) k_ hk_.2.1))) (below_size (by repeat (first | (with_reducible first | exact HB.out | apply below_alloc | apply pw_below_drewN | apply below_drew1) | exact HB.out)))); have n2_ := Aside0.mk (below_step (by repeat (first | (with_reducible first | exact HB.out | apply below_alloc | apply pw_below_drewN | apply below_drew1) | exact HB.out)) hb); clear HO227; clear HB; have HO227 := n0_; have HO230 := n1_; have HB := n2_; clear n0_ n1_ n2_; (try clear hb); (try clear hb2); (try clear hk); (try clear hi); (try clear ho0); obtain ⟨Ao14, co14, eo14⟩ := Kd.N_slice HO230.out; subst eo14))
  go_loopg [17] k (fun kq v17 w' => ∃ (x15_1 : List (S38)) (x17_1 : Int), v17 = .int .i64 x17_1 ∧ Aside0 (packthreadkeep_RecvTwice.l0 kq a4 a5 (wrap64 (1 + t223)) x15_1 (t228.length : Int) x17_1 = some r) ∧ Aside0 (kq ≤ k) ∧ Aside0 (Kd.N k38 38 w' w.heap.size (fun _ => True) (.slice Ao14 t228.length co14) x15_1) ∧ Aside0 (Below w.heap.size w w'))
  case atStart => exact ⟨(t228), (0), (by first | rfl | (simp; done) | (simp [*]; done)), H', ⟨Nat.le_refl _⟩, ⟨by (with_reducible repeat (first | apply Kd.N_alloc | apply Kd.N_drewN | apply Kd.N_drew)); exact Kd.N_mono HO230.out (fun _ hk => trivial)⟩, ⟨by repeat (first | (with_reducible first | exact HB.out | apply below_alloc | apply pw_below_drewN | apply below_drew1) | exact HB.out)⟩⟩
  case round =>
    clear H'
    try clear c1
    try clear p2
    try clear c3
    try clear c5
    try clear p6
    try clear c14
    obtain ⟨x15_1, x17_1, rfl, HA, HK1, HO_15, HB⟩ := hrel
    have hl15_1 := (Kd.N_reads' HO_15.out).1
    rw [hl15_1] at HO_15
    (try simp only [hl15_1])
    cases gk with
    | zero => exact absurd HA.out (by simp [packthreadkeep_RecvTwice.l0])
    | succ k1 =>
      have H := HA.out
      clear HA
      simp only [packthreadkeep_RecvTwice.l0] at H
      by_cases c15 : x17_1 < (t228.length : Int)
      · rw [if_pos c15] at H
        have c15b0 : decide (x17_1 < (t228.length : Int)) = true := decide_eq_true c15
        (try rw [hl15_1] at c15b0)
        (try rw [hl15_1] at c15b0)
        clear c15
        by_cases c16 : 0 ≤ x17_1
        · rw [if_pos c16] at H
          have c16b0 : decide (0 ≤ x17_1) = true := decide_eq_true c16
          clear c16
          by_cases c17 : x17_1 < (x15_1.length : Int)
          · rw [if_pos c17] at H
            have c17b0 : decide (x17_1 < (x15_1.length : Int)) = true := decide_eq_true c17
            clear c17
            by_cases c18 : ((rd_T38 x15_1 x17_1).f0) = 2
            · rw [if_pos c18] at H
              have c18b0 : (((rd_T38 x15_1 x17_1).f0) == 2) = true := beq_iff_eq.mpr c18
              have c18b1 : (((rd_T38 x15_1 x17_1).f0) != 2) = false := bne_eq_false_iff_eq.mpr c18
              clear c18
              obtain ⟨y232, hy232⟩ : ∃ y_ : List (S38), y_ = (x15_1.set (x17_1 : Int).toNat (⟨(rd_T38 x15_1 x17_1).f0, (rd_T38 x15_1 x17_1).f1, (rd_T38 x15_1 x17_1).f2, (rd_T38 x15_1 x17_1).f3, 0⟩ : S38)) := ⟨_, rfl⟩
              replace H : (packthreadkeep_RecvTwice.l0 k1 a4 a5 (wrap64 (1 + t223)) y232 (t228.length : Int) (wrap64 (x17_1 + 1))) = some r := by first | (rw [hy232]; with_reducible exact H) | (have H2_ := (Option.bind_some _ _).symm.trans H; rw [hy232]; with_reducible exact H2_) | (have H2_ := (Option.bind_some _ _).symm.trans H; with_reducible exact H2_) | with_reducible exact H | (rw [hy232]; exact H) | exact H
              have Ny232 := Aside0.mk hy232
              clear hy232
              have H' := Aside0.mk H
              clear H
              have p231 : 0 ≤ (x17_1 : Int) := of_decide_eq_true (by first | (with_reducible assumption) | assumption)
              have q231 : x17_1 < (x15_1.length : Int) := of_decide_eq_true (by first | (with_reducible assumption) | assumption)
              obtain ⟨ad231, A231_2, c231_2, e231, hx231_0, hx231_1, hx231_2, hx231_3, hx231_4, hl231_2, hi231_2⟩ := at_T38 (Kd.N_reads' HO_15.out).2.2 x17_1 p231 q231
              cases e231
              obtain ⟨ce231, hce231, hMe231, hcc231⟩ := Kd.N_get HO_15.out z38 x17_1 p231 (by first | exact q231 | exact of_decide_eq_true (by first | (with_reducible assumption) | assumption) | (have e_ := (Kd.N_reads' HO_15.out).1; omega))
              obtain ⟨ua231_2, uc231_2, rfl, ul231_2, ge231_2⟩ := k38_openF hMe231
              have hv231_2 := hcc231 2 _ rfl
              rw [add_field _ _ 2 (by omega)] at hv231_2
              replace hv231_2 := Option.some.inj (hv231_2.symm.trans hx231_2)
              injection hv231_2 with hva_ hvn_ hvc_
              rw [hva_] at ge231_2
              rw [hvc_] at ul231_2
              have HL231_2 := Aside0.mk (show Kd.V (Kd.int .u8) 5 _ w.heap.size _ _ ((rd_T38 x15_1 x17_1).f2) from Kd.V_mk ul231_2 ge231_2)
              clear hva_ hvn_ hvc_ ge231_2 ul231_2
              clear hcc231 hce231
              have HR231_2 := Aside0.mk hi231_2
              have HC231_2 := Aside0.mk hl231_2
              clear hi231_2 hl231_2
              replace p231 := eq_true p231
              replace q231 := eq_true q231
              have p19 : 0 ≤ (x17_1 : Int) := of_decide_eq_true (by first | (with_reducible assumption) | assumption)
              have q19 : (x17_1 : Int) < ((x15_1.length : Int) : Int) := of_decide_eq_true (by first | (with_reducible assumption) | assumption)
              obtain ⟨go19, co19, eo19, gb19, gl19, cl19, HG19⟩ := Kd.N_form HO_15.out (by omega)
              (first | cases eo19 | (injection eo19 with ea_ en_ ec_; (first | subst ea_ | (injection ea_ with ea_; subst ea_)); subst ec_; clear en_))
              have GB19 := Aside0.mk gb19
              have GG19 := Aside0.mk HG19
              clear gb19 gl19 HG19
              (first | simp only [add_plain] at hx231_0 | skip)
              (first | simp only [add_plain] at hx231_1 | skip)
              (first | simp only [add_plain] at hx231_2 | skip)
              (first | simp only [add_plain] at hx231_3 | skip)
              (first | simp only [add_plain] at hx231_4 | skip)
              obtain ⟨ce19, hcl19, hM19, hcc19, hfr19⟩ := Kd.N_elem HO_15.out z38 (x17_1 : Int) p19 q19
              obtain ⟨ua19_2, uc19_2, rfl, ul19_2, ge19_2⟩ := k38_openF hM19
              have hx19_0 : wr.cell? ⟨go19, (x17_1 : Int).toNat * 5, none⟩ = some (.int .i64 ((rd_T38 x15_1 x17_1).f0)) := hcc19 0 _ rfl
              have hx19_1 : wr.cell? ⟨go19, (x17_1 : Int).toNat * 5 + 1, none⟩ = some (.int .i64 ((rd_T38 x15_1 x17_1).f1)) := hcc19 1 _ rfl
              have hx19_2 : wr.cell? ⟨go19, (x17_1 : Int).toNat * 5 + 2, none⟩ = some (.slice ua19_2 ((rd_T38 x15_1 x17_1).f2).length uc19_2) := hcc19 2 _ rfl
              have hx19_3 : wr.cell? ⟨go19, (x17_1 : Int).toNat * 5 + 3, none⟩ = some (.bool ((rd_T38 x15_1 x17_1).f3)) := hcc19 3 _ rfl
              have hx19_4 : wr.cell? ⟨go19, (x17_1 : Int).toNat * 5 + 4, none⟩ = some (.int .i64 ((rd_T38 x15_1 x17_1).f4)) := hcc19 4 _ rfl
              have hf19_0 : wr.frozen? ⟨go19, (x17_1 : Int).toNat * 5, none⟩ = false := hfr19 0
              have hf19_1 : wr.frozen? ⟨go19, (x17_1 : Int).toNat * 5 + 1, none⟩ = false := hfr19 1
              have hf19_2 : wr.frozen? ⟨go19, (x17_1 : Int).toNat * 5 + 2, none⟩ = false := hfr19 2
              have hf19_3 : wr.frozen? ⟨go19, (x17_1 : Int).toNat * 5 + 3, none⟩ = false := hfr19 3
              have hf19_4 : wr.frozen? ⟨go19, (x17_1 : Int).toNat * 5 + 4, none⟩ = false := hfr19 4
              clear hcl19 hcc19 hfr19 hM19
              replace p19 := eq_true p19
              replace q19 := eq_true q19
              have HX20 := Aside0.mk (show Kd.N k38 38 wr w.heap.size (fun _ => True) (.slice (some ⟨go19, 0, none⟩) x15_1.length co14) x15_1 from (by (with_reducible repeat (first | apply Kd.N_alloc | apply Kd.N_drewN | apply Kd.N_drew)); exact HO_15.out))
              obtain ⟨ce20, hcl20, hM20, hcc20, hfr20⟩ := Kd.N_elem HX20.out z38 (x17_1 : Int) (of_decide_eq_true (by first | (with_reducible assumption) | assumption)) (by have h_ : (x17_1 : Int) < ((x15_1.length : Int) : Int) := of_decide_eq_true (by first | (with_reducible assumption) | assumption); first | exact h_ | (have e_ := (Kd.N_reads' HO_15.out).1; omega) | simpa using h_)
              obtain ⟨ua20_2, uc20_2, rfl, ul20_2, ge20_2⟩ := k38_openF hM20
              have HP20 := Kd.N_seg HX20.out (x17_1 : Int) (of_decide_eq_true (by first | (with_reducible assumption) | assumption)) (by have h_ : (x17_1 : Int) < ((x15_1.length : Int) : Int) := of_decide_eq_true (by first | (with_reducible assumption) | assumption); first | exact h_ | (have e_ := (Kd.N_reads' HO_15.out).1; omega) | simpa using h_) (seg := [.int .i64 0]) (j := 4) hcl20 hcc20 (show 5 ≤ 5 from by decide) (x' := (⟨(rd_T38 x15_1 x17_1).f0, (rd_T38 x15_1 x17_1).f1, (rd_T38 x15_1 x17_1).f2, (rd_T38 x15_1 x17_1).f3, 0⟩ : S38)) (k38_mkF _ _ (⟨(rd_T38 x15_1 x17_1).f0, (rd_T38 x15_1 x17_1).f1, (rd_T38 x15_1 x17_1).f2, (rd_T38 x15_1 x17_1).f3, 0⟩ : S38) ul20_2 ge20_2) (fun _ hk => hk)
              have hx20_4 := hcc20 4 _ rfl
              (try simp only [show (k38).sz = 5 from rfl, Nat.mul_one, Nat.add_zero] at hx20_4)
              have hf20_4 := hfr20 4
              (try simp only [show (k38).sz = 5 from rfl, Nat.mul_one, Nat.add_zero] at hf20_4)
              clear hcl20 hcc20 hfr20 hM20
              go_wp2_with (first | ((with_reducible refine gate_store (t := 3) (p := 55) rfl ?_); refine store_event (t := 3) (p := 55) (v := ?vo_w21) (w1 := (wr.setCell ⟨go19, (x17_1 : Int).toNat * 5 + 4, none⟩ (.int .i64 0))) ?hg ?ho ?hn ?hr ?_; (case ho => rfl); (case hg => rfl); (case hn => rfl); (case hr => first | (go_simp; done) | (go_simp; rfl)); intro w21 hw; have hg : wr.grownBy w21 (some go19) := (by rw [hw]; exact HP20.2); have hp_ : Kd.N k38 38 w21 w.heap.size (fun _ => True) (.slice (some ⟨go19, 0, none⟩) x15_1.length co14) y232 := (by rw [hw, Ny232.out]; exact HP20.1); clear HP20; have n0_ := Aside0.mk (hp_); have n1_ := Aside0.mk (Kd.V_afterv (v := (.slice (some ⟨go19, 0, none⟩) x15_1.length co14)) (v1 := (.slice (some ⟨go19, 0, none⟩) x15_1.length co14)) (ok := (fun _ => True)) (by (with_reducible repeat (first | apply Kd.V_alloc | apply Kd.V_drewN | apply Kd.V_drew)); exact HL231_2.out) hg (.inl rfl)); have n2_ := Aside0.mk ((by rw [hw]; exact below_set (HB.out) GB19.out : Below w.heap.size w w21)); clear HO_15; clear HL231_2; clear HB; have HO_15 := n0_; have HL231_2 := n1_; have HB := n2_; clear n0_ n1_ n2_; clear hg hw hp_))
              (try simp only [← hl15_1])
              go_roundg k1
              case measure => have := HK1.out; omega
              case rel => exact ⟨(y232), (wrap64 (x17_1 + 1)), (by first | rfl | (simp; done) | (simp [*]; done)), H', ⟨by have := HK1.out; omega⟩, ⟨by (try simp only [hl15_1]); (with_reducible repeat (first | apply Kd.N_alloc | apply Kd.N_drewN | apply Kd.N_drew)); exact HO_15.out⟩, ⟨by repeat (first | (with_reducible first | exact HB.out | apply below_alloc | apply pw_below_drewN | apply below_drew1) | exact HB.out)⟩⟩
            · rw [if_neg c18] at H
              have c18b0 : (((rd_T38 x15_1 x17_1).f0) == 2) = false := beq_eq_false_iff_ne.mpr c18
              have c18b1 : (((rd_T38 x15_1 x17_1).f0) != 2) = true := bne_iff_ne.mpr c18
              have H' := Aside0.mk H
              clear H
              have p231 : 0 ≤ (x17_1 : Int) := of_decide_eq_true (by first | (with_reducible assumption) | assumption)
              have q231 : x17_1 < (x15_1.length : Int) := of_decide_eq_true (by first | (with_reducible assumption) | assumption)
              obtain ⟨ad231, A231_2, c231_2, e231, hx231_0, hx231_1, hx231_2, hx231_3, hx231_4, hl231_2, hi231_2⟩ := at_T38 (Kd.N_reads' HO_15.out).2.2 x17_1 p231 q231
              cases e231
              obtain ⟨ce231, hce231, hMe231, hcc231⟩ := Kd.N_get HO_15.out z38 x17_1 p231 (by first | exact q231 | exact of_decide_eq_true (by first | (with_reducible assumption) | assumption) | (have e_ := (Kd.N_reads' HO_15.out).1; omega))
              obtain ⟨ua231_2, uc231_2, rfl, ul231_2, ge231_2⟩ := k38_openF hMe231
              have hv231_2 := hcc231 2 _ rfl
              rw [add_field _ _ 2 (by omega)] at hv231_2
              replace hv231_2 := Option.some.inj (hv231_2.symm.trans hx231_2)
              injection hv231_2 with hva_ hvn_ hvc_
              rw [hva_] at ge231_2
              rw [hvc_] at ul231_2
              have HL231_2 := Aside0.mk (show Kd.V (Kd.int .u8) 5 _ w.heap.size _ _ ((rd_T38 x15_1 x17_1).f2) from Kd.V_mk ul231_2 ge231_2)
              clear hva_ hvn_ hvc_ ge231_2 ul231_2
              clear hcc231 hce231
              have HR231_2 := Aside0.mk hi231_2
              have HC231_2 := Aside0.mk hl231_2
              clear hi231_2 hl231_2
              replace p231 := eq_true p231
              replace q231 := eq_true q231
              go_wp2
              (try simp only [← hl15_1])
              go_roundg k1
              case measure => have := HK1.out; omega
              case rel => exact ⟨(x15_1), (wrap64 (x17_1 + 1)), (by first | rfl | (simp; done) | (simp [*]; done)), H', ⟨by have := HK1.out; omega⟩, ⟨by (try simp only [hl15_1]); (with_reducible repeat (first | apply Kd.N_alloc | apply Kd.N_drewN | apply Kd.N_drew)); exact HO_15.out⟩, ⟨by repeat (first | (with_reducible first | exact HB.out | apply below_alloc | apply pw_below_drewN | apply below_drew1) | exact HB.out)⟩⟩
          · rw [if_neg c17] at H
            exact absurd H (by simp)
        · rw [if_neg c16] at H
          exact absurd H (by simp)
      · rw [if_neg c15] at H
        have c15b0 : decide (x17_1 < (t228.length : Int)) = false := decide_eq_false c15
        (try rw [hl15_1] at c15b0)
        (try rw [hl15_1] at c15b0)
        clear c15
        have H' := Aside0.mk H
        clear H
        go_wp2
        go_loopg [18, 19] k1 (fun kq v18 v19 w' => ∃ (x18_2 : List (S38)) (x19_2 : Int), v19 = .int .i64 x19_2 ∧ Aside0 (packthreadkeep_RecvTwice.l1 kq a4 a5 (wrap64 (1 + t223)) x15_1 (t228.length : Int) x18_2 x19_2 = some r) ∧ Aside0 (kq ≤ k1) ∧ Aside0 (Kd.N k38 38 w' w.heap.size (fun k_ => some k_ ≠ (v18 : Value).ownBlock) (.slice Ao14 x15_1.length co14) x15_1) ∧ Aside0 (Kd.N k38 38 w' w.heap.size (fun k_ => some k_ ≠ ((.slice Ao14 x15_1.length co14) : Value).ownBlock) v18 x18_2) ∧ Aside0 (Below w.heap.size w w'))
        case atStart => exact ⟨(([] : List (S38))), (0), (by first | rfl | (simp; done) | (simp [*]; done)), H', ⟨Nat.le_refl _⟩, ⟨by (try simp only [hl15_1]); (with_reducible repeat (first | apply Kd.N_alloc | apply Kd.N_drewN | apply Kd.N_drew)); exact Kd.N_mono HO_15.out (fun _ hk => (by simp [Value.ownBlock]))⟩, ⟨by (try simp only [hl15_1]); first | exact Kd.S_nil _ _ _ _ _ | exact Kd.N_nil _ _ _ _ _ | exact Kd.V_nil _ _ _ _ _ | exact Kd.Q_nil _ _ _ _ _ | exact Kd.R_nil _ _ _ _ _⟩, ⟨by repeat (first | (with_reducible first | exact HB.out | apply below_alloc | apply pw_below_drewN | apply below_drew1) | exact HB.out)⟩⟩
        case round =>
          clear H'
          try clear c1
          try clear p1
          try clear q1
          try clear hx1
          try clear c2
          try clear p2
          try clear q2
          try clear hx2
          try clear c3
          try clear c5
          try clear p6
          try clear c14
          try clear c15
          try clear c15b0
          try clear c16
          try clear c16b0
          try clear c17
          try clear c17b0
          try clear c18
          try clear c18b0
          try clear c18b1
          try clear c19
          try clear p19
          try clear q19
          try clear hx19
          try clear hf19
          try clear c20
          try clear hx20
          try clear hf20
          try clear hx19_0
          try clear hx19_1
          try clear hx19_2
          try clear hx19_3
          try clear hx19_4
          try clear hx20_4
          try clear hx231_0
          try clear hx231_1
          try clear hx231_2
          try clear hx231_3
          try clear hx231_4
          try clear p19
          try clear p2
          try clear p231
          try clear p6
          try clear q19
          try clear q231
          obtain ⟨x18_2, x19_2, rfl, HA, HK2, HO_15, HO_18, HB⟩ := hrel
          cases gk with
          | zero => exact absurd HA.out (by simp [packthreadkeep_RecvTwice.l1])
          | succ k2 =>
            have H := HA.out
            clear HA
            simp only [packthreadkeep_RecvTwice.l1] at H
            by_cases c22 : x19_2 < (t228.length : Int)
            · rw [if_pos c22] at H
              have c22b0 : decide (x19_2 < (t228.length : Int)) = true := decide_eq_true c22
              (try rw [hl15_1] at c22b0)
              clear c22
              by_cases c23 : 0 ≤ x19_2
              · rw [if_pos c23] at H
                have c23b0 : decide (0 ≤ x19_2) = true := decide_eq_true c23
                clear c23
                by_cases c24 : x19_2 < (x15_1.length : Int)
                · rw [if_pos c24] at H
                  have c24b0 : decide (x19_2 < (x15_1.length : Int)) = true := decide_eq_true c24
                  clear c24
                  by_cases c25 : x18_2.length < 2513169434916
                  · rw [if_pos c25] at H
                    have LMc25 := Aside0.mk c25
                    clear c25
                    obtain ⟨y234, hy234⟩ : ∃ y_ : List (S38), y_ = (x18_2 ++ [(⟨(rd_T38 x15_1 x19_2).f0, (rd_T38 x15_1 x19_2).f1, (rd_T38 x15_1 x19_2).f2, (rd_T38 x15_1 x19_2).f3, (rd_T38 x15_1 x19_2).f4⟩ : S38)]) := ⟨_, rfl⟩
                    replace H : (if ((rd_T38 x15_1 x19_2).f0) = 1 then ((packthreadkeep_Picked.f (wrap64 (a4 + x19_2)) 3).bind fun t238 => (packthreadkeep_RecvTwice.j2 k2 a4 a5 (wrap64 (1 + t223)) x15_1 (t228.length : Int) y234 x19_2 (t238 == 0))) else (packthreadkeep_RecvTwice.j2 k2 a4 a5 (wrap64 (1 + t223)) x15_1 (t228.length : Int) y234 x19_2 false)) = some r := by first | (rw [hy234]; with_reducible exact H) | (have H2_ := (Option.bind_some _ _).symm.trans H; rw [hy234]; with_reducible exact H2_) | (have H2_ := (Option.bind_some _ _).symm.trans H; with_reducible exact H2_) | with_reducible exact H | (rw [hy234]; exact H) | exact H
                    have Ny234 := Aside0.mk hy234
                    clear hy234
                    have HC26 := Aside0.mk H
                    clear H
                    have p233 : 0 ≤ (x19_2 : Int) := of_decide_eq_true (by first | (with_reducible assumption) | assumption)
                    have q233 : x19_2 < (x15_1.length : Int) := of_decide_eq_true (by first | (with_reducible assumption) | assumption)
                    obtain ⟨ad233, A233_2, c233_2, e233, hx233_0, hx233_1, hx233_2, hx233_3, hx233_4, hl233_2, hi233_2⟩ := at_T38 (Kd.N_reads' HO_15.out).2.2 x19_2 p233 q233
                    cases e233
                    obtain ⟨ce233, hce233, hMe233, hcc233⟩ := Kd.N_get HO_15.out z38 x19_2 p233 (by first | exact q233 | exact of_decide_eq_true (by first | (with_reducible assumption) | assumption) | (have e_ := (Kd.N_reads' HO_15.out).1; omega))
                    obtain ⟨ua233_2, uc233_2, rfl, ul233_2, ge233_2⟩ := k38_openF hMe233
                    have hv233_2 := hcc233 2 _ rfl
                    rw [add_field _ _ 2 (by omega)] at hv233_2
                    replace hv233_2 := Option.some.inj (hv233_2.symm.trans hx233_2)
                    injection hv233_2 with hva_ hvn_ hvc_
                    rw [hva_] at ge233_2
                    rw [hvc_] at ul233_2
                    have HL233_2 := Aside0.mk (show Kd.V (Kd.int .u8) 5 _ w.heap.size _ _ ((rd_T38 x15_1 x19_2).f2) from Kd.V_mk ul233_2 ge233_2)
                    clear hva_ hvn_ hvc_ ge233_2 ul233_2
                    clear hcc233 hce233
                    have HR233_2 := Aside0.mk hi233_2
                    have HC233_2 := Aside0.mk hl233_2
                    clear hi233_2 hl233_2
                    replace p233 := eq_true p233
                    replace q233 := eq_true q233
                    go_upto_region 15 with (first | ((with_reducible refine gate_builtin (b := .append) (xs := #[.tmp 61, .tmp 66]) rfl ?_); at_builtin; refine Kd.N_append k38 (w0 := w) w.heap.size rfl (.tmp 61) (.tmp 66) 26 38 (.agg #[(.int .i64 0), (.int .i64 0), (.slice none 0 0), (.bool false), (.int .i64 0)]) 56 rfl Try.underlying26 info38 rfl (by decide) (by omega) u18 x18_2 (⟨(rd_T38 x15_1 x19_2).f0, (rd_T38 x15_1 x19_2).f1, (rd_T38 x15_1 x19_2).f2, (rd_T38 x15_1 x19_2).f3, (rd_T38 x15_1 x19_2).f4⟩ : S38) [.int .i64 ((rd_T38 x15_1 x19_2).f0), .int .i64 ((rd_T38 x15_1 x19_2).f1), .slice A233_2 ((rd_T38 x15_1 x19_2).f2).length c233_2, .bool ((rd_T38 x15_1 x19_2).f3), .int .i64 ((rd_T38 x15_1 x19_2).f4)] (fun k_ => some k_ ≠ (.slice (some ad233) x15_1.length co14 : Value).ownBlock) (fun k_ => ((fun k_ => some k_ ≠ (.slice (some ad233) x15_1.length co14 : Value).ownBlock)) k_ ∧ some k_ ≠ (u18 : Value).ownBlock) rfl rfl ?aP (fun _ hk => hk) ?aF ?aO ?aB ?aS ?aL ?_; (case aP => exact (k38_mkF _ _ (⟨(rd_T38 x15_1 x19_2).f0, (rd_T38 x15_1 x19_2).f1, (rd_T38 x15_1 x19_2).f2, (rd_T38 x15_1 x19_2).f3, (rd_T38 x15_1 x19_2).f4⟩ : S38) (Kd.V_reads' (Kd.V_mono (ok' := (fun k_ => ((fun k_ => some k_ ≠ (.slice (some ad233) x15_1.length co14 : Value).ownBlock)) k_ ∧ some k_ ≠ (u18 : Value).ownBlock)) (HL233_2.out) (fun k_ hk => ⟨hk.2, hk.1⟩))).2.1 (Kd.V_F (Kd.V_mono (ok' := (fun k_ => ((fun k_ => some k_ ≠ (.slice (some ad233) x15_1.length co14 : Value).ownBlock)) k_ ∧ some k_ ≠ (u18 : Value).ownBlock)) (HL233_2.out) (fun k_ hk => ⟨hk.2, hk.1⟩))))); (case aB => exact (by repeat (first | (with_reducible first | exact HB.out | apply below_alloc | apply pw_below_drewN | apply below_drew1) | exact HB.out))); (case aF => exact (fun k_ hk => Kd.fresh' (Kd.N_lt (by (with_reducible repeat (first | apply Kd.N_alloc | apply Kd.N_drewN | apply Kd.N_drew)); exact HO_15.out)) k_ hk)); (case aO => exact (by (with_reducible repeat (first | apply Kd.N_alloc | apply Kd.N_drewN | apply Kd.N_drew)); exact HO_18.out)); (case aS => exact (below_size (by repeat (first | (with_reducible first | exact HB.out | apply below_alloc | apply pw_below_drewN | apply below_drew1) | exact HB.out)))); (case aL => have := LMc25.out; omega); intro v235 w27 ho hb hg hat; rw [← Ny234.out] at ho; have n0_ := Aside0.mk (Kd.N_afterv (ok := (fun _ => True)) (by (with_reducible repeat (first | apply Kd.N_alloc | apply Kd.N_drewN | apply Kd.N_drew)); exact Kd.N_mono HO_15.out (fun _ hk => by first | exact ⟨trivial, hk⟩ | (and_intros <;> first | exact hk | exact hk.1 | exact hk.2 | exact hk.1.1 | exact hk.1.2 | exact hk.2.1 | exact hk.2.2 | exact hk.1.1.1 | exact hk.1.1.2 | exact hk.2.2.1 | exact hk.2.2.2))) hg hat); have n1_ := Aside0.mk (Kd.V_afterv (ok := (fun k_ => some k_ ≠ (.slice (some ad233) x15_1.length co14 : Value).ownBlock)) (by (with_reducible repeat (first | apply Kd.V_alloc | apply Kd.V_drewN | apply Kd.V_drew)); exact Kd.V_mono HL233_2.out (fun _ hk => by first | exact ⟨hk.2, hk.1⟩ | (and_intros <;> first | exact hk | exact hk.1 | exact hk.2 | exact hk.1.1 | exact hk.1.2 | exact hk.2.1 | exact hk.2.2 | exact hk.1.1.1 | exact hk.1.1.2 | exact hk.2.2.1 | exact hk.2.2.2))) hg hat); have n2_ := Aside0.mk (hb); have n3_ := Aside0.mk (ho); clear HO_15; clear HL233_2; clear HB; clear HO_18; have HO_15 := n0_; have HL233_2 := n1_; have HB := n2_; have HO236 := n3_; clear n0_ n1_ n2_ n3_; clear ho hb hg hat))
                    (try simp only [Act.put, List.setIfInBounds_toArray, List.set_cons_zero, List.set_cons_succ])
                    go_cut [80] (fun v80 wc => ∃ (kq : Nat) (x80_25 : Bool), v80 = .bool x80_25 ∧ Aside0 (packthreadkeep_RecvTwice.j2 kq a4 a5 (wrap64 (1 + t223)) x15_1 (t228.length : Int) y234 x19_2 x80_25 = some r) ∧ Aside0 (kq ≤ k2) ∧ Aside0 (Kd.N k38 38 wc w.heap.size (fun k_ => some k_ ≠ (v235 : Value).ownBlock) (.slice (some ad233) x15_1.length co14) x15_1) ∧ Aside0 (Kd.N k38 38 wc w.heap.size (fun k_ => some k_ ≠ ((.slice (some ad233) x15_1.length co14) : Value).ownBlock) v235 y234) ∧ Aside0 (Below w.heap.size w wc))
                    case first =>
                      have H := HC26.out
                      clear HC26
                      by_cases c28 : ((rd_T38 x15_1 x19_2).f0) = 1
                      · rw [if_pos c28] at H
                        have c28b0 : (((rd_T38 x15_1 x19_2).f0) == 1) = true := beq_iff_eq.mpr c28
                        have c28b1 : (((rd_T38 x15_1 x19_2).f0) != 1) = false := bne_eq_false_iff_eq.mpr c28
                        clear c28
                        (first | rw [c28b0] | (simp only [i64_w, i32_w]; rw [c28b0]) | rw [c28b1] | skip)
                        replace H := Option.bind_eq_some_iff.mp H
                        obtain ⟨t238, A290, H⟩ := H
                        replace H : (packthreadkeep_RecvTwice.j2 k2 a4 a5 (wrap64 (1 + t223)) x15_1 (t228.length : Int) y234 x19_2 (t238 == 0)) = some r := H
                        have A29 := Aside0.mk A290
                        clear A290
                        have H' := Aside0.mk H
                        clear H
                        have p237 : 0 ≤ (x19_2 : Int) := of_decide_eq_true (by first | (with_reducible assumption) | assumption)
                        have q237 : x19_2 < (x15_1.length : Int) := of_decide_eq_true (by first | (with_reducible assumption) | assumption)
                        obtain ⟨ad237, A237_2, c237_2, e237, hx237_0, hx237_1, hx237_2, hx237_3, hx237_4, hl237_2, hi237_2⟩ := at_T38 (Kd.N_reads' HO_15.out).2.2 x19_2 p237 q237
                        obtain rfl : ad233 = ad237 := (by injection e237)
                        obtain ⟨ce237, hce237, hMe237, hcc237⟩ := Kd.N_get HO_15.out z38 x19_2 p237 (by first | exact q237 | exact of_decide_eq_true (by first | (with_reducible assumption) | assumption) | (have e_ := (Kd.N_reads' HO_15.out).1; omega))
                        obtain ⟨ua237_2, uc237_2, rfl, ul237_2, ge237_2⟩ := k38_openF hMe237
                        have hv237_2 := hcc237 2 _ rfl
                        rw [add_field _ _ 2 (by omega)] at hv237_2
                        replace hv237_2 := Option.some.inj (hv237_2.symm.trans hx237_2)
                        injection hv237_2 with hva_ hvn_ hvc_
                        rw [hva_] at ge237_2
                        rw [hvc_] at ul237_2
                        have HL237_2 := Aside0.mk (show Kd.V (Kd.int .u8) 5 _ w.heap.size _ _ ((rd_T38 x15_1 x19_2).f2) from Kd.V_mk ul237_2 ge237_2)
                        clear hva_ hvn_ hvc_ ge237_2 ul237_2
                        clear hcc237 hce237
                        have HR237_2 := Aside0.mk hi237_2
                        have HC237_2 := Aside0.mk hl237_2
                        clear hi237_2 hl237_2
                        replace p237 := eq_true p237
                        replace q237 := eq_true q237
                        go_wp2_with (first | (go_at_call 14; (with_reducible refine (packthreadkeep_Picked.calls (wrap64 (a4 + x19_2)) 3 t238 _ A29.out).mono ?_); rintro e w' ⟨rfl, ⟨nd, rfl⟩⟩))
                        go_meet
                        case rel => exact ⟨_, ((t238 == 0)), (by first | rfl | (simp; done) | (simp [*]; done)), H', ⟨by have := HK1.out; have := HK2.out; first | omega | exact Nat.le_refl _⟩, ⟨by (try simp only [hl15_1]); (with_reducible repeat (first | apply Kd.N_alloc | apply Kd.N_drewN | apply Kd.N_drew)); exact Kd.N_mono HO_15.out (fun _ hk => by first | exact hk.2 | (and_intros <;> first | exact hk | exact hk.1 | exact hk.2 | exact hk.1.1 | exact hk.1.2 | exact hk.2.1 | exact hk.2.2 | exact hk.1.1.1 | exact hk.1.1.2 | exact hk.2.2.1 | exact hk.2.2.2))⟩, ⟨by (try simp only [hl15_1]); (with_reducible repeat (first | apply Kd.N_alloc | apply Kd.N_drewN | apply Kd.N_drew)); exact HO236.out⟩, ⟨by repeat (first | (with_reducible first | exact HB.out | apply below_alloc | apply pw_below_drewN | apply below_drew1) | exact HB.out)⟩⟩
                      · rw [if_neg c28] at H
                        have c28b0 : (((rd_T38 x15_1 x19_2).f0) == 1) = false := beq_eq_false_iff_ne.mpr c28
                        have c28b1 : (((rd_T38 x15_1 x19_2).f0) != 1) = true := bne_iff_ne.mpr c28
                        (first | rw [c28b0] | (simp only [i64_w, i32_w]; rw [c28b0]) | rw [c28b1] | skip)
                        have H' := Aside0.mk H
                        clear H
                        have p237 : 0 ≤ (x19_2 : Int) := of_decide_eq_true (by first | (with_reducible assumption) | assumption)
                        have q237 : x19_2 < (x15_1.length : Int) := of_decide_eq_true (by first | (with_reducible assumption) | assumption)
                        obtain ⟨ad237, A237_2, c237_2, e237, hx237_0, hx237_1, hx237_2, hx237_3, hx237_4, hl237_2, hi237_2⟩ := at_T38 (Kd.N_reads' HO_15.out).2.2 x19_2 p237 q237
                        obtain rfl : ad233 = ad237 := (by injection e237)
                        obtain ⟨ce237, hce237, hMe237, hcc237⟩ := Kd.N_get HO_15.out z38 x19_2 p237 (by first | exact q237 | exact of_decide_eq_true (by first | (with_reducible assumption) | assumption) | (have e_ := (Kd.N_reads' HO_15.out).1; omega))
                        obtain ⟨ua237_2, uc237_2, rfl, ul237_2, ge237_2⟩ := k38_openF hMe237
                        have hv237_2 := hcc237 2 _ rfl
                        rw [add_field _ _ 2 (by omega)] at hv237_2
                        replace hv237_2 := Option.some.inj (hv237_2.symm.trans hx237_2)
                        injection hv237_2 with hva_ hvn_ hvc_
                        rw [hva_] at ge237_2
                        rw [hvc_] at ul237_2
                        have HL237_2 := Aside0.mk (show Kd.V (Kd.int .u8) 5 _ w.heap.size _ _ ((rd_T38 x15_1 x19_2).f2) from Kd.V_mk ul237_2 ge237_2)
                        clear hva_ hvn_ hvc_ ge237_2 ul237_2
                        clear hcc237 hce237
                        have HR237_2 := Aside0.mk hi237_2
                        have HC237_2 := Aside0.mk hl237_2
                        clear hi237_2 hl237_2
                        replace p237 := eq_true p237
                        replace q237 := eq_true q237
                        go_wp2
                        go_meet
                        case rel => exact ⟨_, (false), (by first | rfl | (simp; done) | (simp [*]; done)), H', ⟨by have := HK1.out; have := HK2.out; first | omega | exact Nat.le_refl _⟩, ⟨by (try simp only [hl15_1]); (with_reducible repeat (first | apply Kd.N_alloc | apply Kd.N_drewN | apply Kd.N_drew)); exact Kd.N_mono HO_15.out (fun _ hk => by first | exact hk.2 | (and_intros <;> first | exact hk | exact hk.1 | exact hk.2 | exact hk.1.1 | exact hk.1.2 | exact hk.2.1 | exact hk.2.2 | exact hk.1.1.1 | exact hk.1.1.2 | exact hk.2.2.1 | exact hk.2.2.2))⟩, ⟨by (try simp only [hl15_1]); (with_reducible repeat (first | apply Kd.N_alloc | apply Kd.N_drewN | apply Kd.N_drew)); exact HO236.out⟩, ⟨by repeat (first | (with_reducible first | exact HB.out | apply below_alloc | apply pw_below_drewN | apply below_drew1) | exact HB.out)⟩⟩
                    case rest =>
                      clear HC26
                      try clear c1
                      try clear p1
                      try clear q1
                      try clear hx1
                      try clear c2
                      try clear p2
                      try clear q2
                      try clear hx2
                      try clear c3
                      try clear c5
                      try clear p6
                      try clear c14
                      try clear c15
                      try clear c15b0
                      try clear c16
                      try clear c16b0
                      try clear c17
                      try clear c17b0
                      try clear c18
                      try clear c18b0
                      try clear c18b1
                      try clear c19
                      try clear p19
                      try clear q19
                      try clear hx19
                      try clear hf19
                      try clear c20
                      try clear hx20
                      try clear hf20
                      try clear c22
                      try clear c22b0
                      try clear c23
                      try clear c23b0
                      try clear p23
                      try clear q23
                      try clear hx23
                      try clear c24
                      try clear c24b0
                      try clear c25
                      try clear c28
                      try clear c28b0
                      try clear c28b1
                      try clear hx19_0
                      try clear hx19_1
                      try clear hx19_2
                      try clear hx19_3
                      try clear hx19_4
                      try clear hx20_4
                      try clear hx231_0
                      try clear hx231_1
                      try clear hx231_2
                      try clear hx231_3
                      try clear hx231_4
                      try clear hx233_0
                      try clear hx233_1
                      try clear hx233_2
                      try clear hx233_3
                      try clear hx233_4
                      try clear hx237_0
                      try clear hx237_1
                      try clear hx237_2
                      try clear hx237_3
                      try clear hx237_4
                      try clear p1
                      try clear p19
                      try clear p2
                      try clear p231
                      try clear p233
                      try clear p237
                      try clear p6
                      try clear q1
                      try clear q19
                      try clear q2
                      try clear q231
                      try clear q233
                      try clear q237
                      obtain ⟨kq, x80_25, rfl, HA, HJ25, HO_15, HO_18, HB⟩ := hcut
                      cases kq with
                      | zero => exact absurd HA.out (by simp [packthreadkeep_RecvTwice.j2])
                      | succ kj25 =>
                        have H := HA.out
                        clear HA
                        simp only [packthreadkeep_RecvTwice.j2] at H
                        by_cases c30 : x80_25 = true
                        · subst c30
                          have H1 : (if 0 ≤ x19_2 then (if x19_2 < (x15_1.length : Int) then (if ([] : List Int).length + ((rd_T38 x15_1 x19_2).f2).length < 140737488355328 then (packthreadkeep_RecvTwice.l2 kj25 a4 a5 (wrap64 (1 + t223)) x15_1 (t228.length : Int) y234 x19_2 0 ((rd_T38 x15_1 x19_2).f0) ((rd_T38 x15_1 x19_2).f1) (([] : List Int) ++ ((rd_T38 x15_1 x19_2).f2)) ((rd_T38 x15_1 x19_2).f3) ((rd_T38 x15_1 x19_2).f4)) else (none)) else (none)) else (none)) = some r := by rw [if_pos rfl] at H; exact H
                          clear H
                          have H := H1
                          clear H1
                          by_cases c31 : 0 ≤ x19_2
                          · rw [if_pos c31] at H
                            have c31b0 : decide (0 ≤ x19_2) = true := decide_eq_true c31
                            clear c31
                            by_cases c32 : x19_2 < (x15_1.length : Int)
                            · rw [if_pos c32] at H
                              have c32b0 : decide (x19_2 < (x15_1.length : Int)) = true := decide_eq_true c32
                              clear c32
                              by_cases c33 : ([] : List Int).length + ((rd_T38 x15_1 x19_2).f2).length < 140737488355328
                              · rw [if_pos c33] at H
                                have LMc33 := Aside0.mk c33
                                clear c33
                                obtain ⟨y241, hy241⟩ : ∃ y_ : List Int, y_ = (([] : List Int) ++ ((rd_T38 x15_1 x19_2).f2)) := ⟨_, rfl⟩
                                replace H : (packthreadkeep_RecvTwice.l2 kj25 a4 a5 (wrap64 (1 + t223)) x15_1 (t228.length : Int) y234 x19_2 0 ((rd_T38 x15_1 x19_2).f0) ((rd_T38 x15_1 x19_2).f1) y241 ((rd_T38 x15_1 x19_2).f3) ((rd_T38 x15_1 x19_2).f4)) = some r := by first | (rw [hy241]; with_reducible exact H) | (have H2_ := (Option.bind_some _ _).symm.trans H; rw [hy241]; with_reducible exact H2_) | (have H2_ := (Option.bind_some _ _).symm.trans H; with_reducible exact H2_) | with_reducible exact H | (rw [hy241]; exact H) | exact H
                                have Ny241 := Aside0.mk hy241
                                clear hy241
                                have H' := Aside0.mk H
                                clear H
                                have p239 : 0 ≤ (x19_2 : Int) := of_decide_eq_true (by first | (with_reducible assumption) | assumption)
                                have q239 : x19_2 < (x15_1.length : Int) := of_decide_eq_true (by first | (with_reducible assumption) | assumption)
                                obtain ⟨ad239, A239_2, c239_2, e239, hx239_0, hx239_1, hx239_2, hx239_3, hx239_4, hl239_2, hi239_2⟩ := at_T38 (Kd.N_reads' HO_15.out).2.2 x19_2 p239 q239
                                obtain rfl : ad233 = ad239 := (by injection e239)
                                obtain ⟨ce239, hce239, hMe239, hcc239⟩ := Kd.N_get HO_15.out z38 x19_2 p239 (by first | exact q239 | exact of_decide_eq_true (by first | (with_reducible assumption) | assumption) | (have e_ := (Kd.N_reads' HO_15.out).1; omega))
                                obtain ⟨ua239_2, uc239_2, rfl, ul239_2, ge239_2⟩ := k38_openF hMe239
                                have hv239_2 := hcc239 2 _ rfl
                                rw [add_field _ _ 2 (by omega)] at hv239_2
                                replace hv239_2 := Option.some.inj (hv239_2.symm.trans hx239_2)
                                injection hv239_2 with hva_ hvn_ hvc_
                                rw [hva_] at ge239_2
                                rw [hvc_] at ul239_2
                                have HL239_2 := Aside0.mk (show Kd.V (Kd.int .u8) 5 _ w.heap.size _ _ ((rd_T38 x15_1 x19_2).f2) from Kd.V_mk ul239_2 ge239_2)
                                clear hva_ hvn_ hvc_ ge239_2 ul239_2
                                clear hcc239 hce239
                                have HR239_2 := Aside0.mk hi239_2
                                have HC239_2 := Aside0.mk hl239_2
                                clear hi239_2 hl239_2
                                replace p239 := eq_true p239
                                replace q239 := eq_true q239
                                go_wp2_with (first | ((with_reducible refine gate_dst (N := 20) rfl ?_); refine box_event ?hg (N := 20) ?hd (cs := #[.int .i64 0, .int .i64 0, .slice none 0 0, .bool false, .int .i64 0]) (t := 38) ?hr ?_; (case hd => rfl); (case hg => rfl); (case hr => first | (go_simp; done) | (go_simp; rfl)); intro gb240 hg w34 hbox hb; have n0_ := Aside0.mk (Kd.N_below (Kd.N_elderB (by (with_reducible repeat (first | apply Kd.N_alloc | apply Kd.N_drewN | apply Kd.N_drew)); exact HO_15.out) gb240 (Nat.le_of_eq hg.symm)) hb); have n1_ := Aside0.mk (Kd.N_below (Kd.N_elderB (by (with_reducible repeat (first | apply Kd.N_alloc | apply Kd.N_drewN | apply Kd.N_drew)); exact HO_18.out) gb240 (Nat.le_of_eq hg.symm)) hb); have n2_ := Aside0.mk (Kd.V_below (Kd.V_elderB (by (with_reducible repeat (first | apply Kd.V_alloc | apply Kd.V_drewN | apply Kd.V_drew)); exact HL239_2.out) gb240 (Nat.le_of_eq hg.symm)) hb); have n3_ := Aside0.mk (Kd.C_below (by repeat (first | (with_reducible exact HR239_2.out) | (with_reducible refine Kd.C_alloc ?_ _) | (with_reducible refine Kd.C_drewN ?_ _) | (with_reducible refine Kd.C_drew ?_) | exact HR239_2.out)) hb); have n4_ := Aside0.mk (below_step (by repeat (first | (with_reducible first | exact HB.out | apply below_alloc | apply pw_below_drewN | apply below_drew1) | exact HB.out)) hb); have n5_ := Aside0.mk (hbox); have n6_ := Aside0.mk ((by rw [hg]; exact (below_size (by repeat (first | (with_reducible first | exact HB.out | apply below_alloc | apply pw_below_drewN | apply below_drew1) | exact HB.out))) : w.heap.size ≤ gb240)); have n7_ := Aside0.mk ((by rw [hg]; exact (below_size (by repeat (first | (with_reducible first | exact HB.out | apply below_alloc | apply pw_below_drewN | apply below_drew1) | exact HB.out))) : w.heap.size ≤ gb240)); clear HO_15; clear HO_18; clear HL239_2; clear HR239_2; clear HB; have HO_15 := n0_; have HO_18 := n1_; have HL239_2 := n2_; have HR239_2 := n3_; have HB := n4_; have BK240 := n5_; have GW240 := n6_; have GE240 := n7_; clear n0_ n1_ n2_ n3_ n4_ n5_ n6_ n7_; clear hb hbox hg; have hcz35_0 : w34.cell? ⟨gb240, 0, none⟩ = some (.int .i64 0) := (blk_cell BK240.out 0).trans rfl; have hcz35_1 : w34.cell? ⟨gb240, 1, none⟩ = some (.int .i64 0) := (blk_cell BK240.out 1).trans rfl; have hcz35_2 : w34.cell? ⟨gb240, 2, none⟩ = some (.slice none 0 0) := (blk_cell BK240.out 2).trans rfl; have hcz35_3 : w34.cell? ⟨gb240, 3, none⟩ = some (.bool false) := (blk_cell BK240.out 3).trans rfl; have hcz35_4 : w34.cell? ⟨gb240, 4, none⟩ = some (.int .i64 0) := (blk_cell BK240.out 4).trans rfl; have hfz35_0 := blk_frozen BK240.out 0; have hfz35_1 := blk_frozen BK240.out 1; have hfz35_2 := blk_frozen BK240.out 2; have hfz35_3 := blk_frozen BK240.out 3; have hfz35_4 := blk_frozen BK240.out 4) | ((with_reducible refine gate_builtin (b := .append) (xs := #[.const (.slice none 0 0), .tmp 86]) rfl ?_); at_builtin; refine Kd.R_append_rows (Kd.int .u8) (w0 := w) w.heap.size rfl (.const (.slice none 0 0)) (.tmp 86) 24 5 (.int .u8 0) 1 rfl Try.underlying24 info5 rfl (by decide) (by omega) (.slice none 0 0) ([] : List Int) ((rd_T38 x15_1 x19_2).f2) _ _ _ (fun _ => True) (fun _ => False) rfl rfl ?aO ?aR (fun _ _ h => h) (fun _ h => h.elim) ?aF ?aB ?aS ?aL ?_; (case aR => repeat (first | exact ((Kd.V_reads' (by (with_reducible repeat (first | apply Kd.V_alloc | apply Kd.V_drewN | apply Kd.V_drew)); exact (Kd.V_mono (Kd.V_far (p := ⟨gb240, 4, none⟩) (Kd.V_far (p := ⟨gb240, 3, none⟩) (Kd.V_far (p := ⟨gb240, 2, none⟩) (Kd.V_far (p := ⟨gb240, 1, none⟩) (Kd.V_far (p := ⟨gb240, 0, none⟩) (Kd.V_mono HL239_2.out (fun k_ hk => (⟨hk, hk.2⟩ : _ ∧ k_ ≠ gb240))) (fun _ hk => by first | exact hk.2 | (and_intros <;> first | exact hk | exact hk.1 | exact hk.2 | exact hk.1.1 | exact hk.1.2 | exact hk.2.1 | exact hk.2.2 | exact hk.1.1.1 | exact hk.1.1.2 | exact hk.2.2.1 | exact hk.2.2.2)) (.int .i64 ((rd_T38 x15_1 x19_2).f0))) (fun _ hk => by first | exact hk.2 | (and_intros <;> first | exact hk | exact hk.1 | exact hk.2 | exact hk.1.1 | exact hk.1.2 | exact hk.2.1 | exact hk.2.2 | exact hk.1.1.1 | exact hk.1.1.2 | exact hk.2.2.1 | exact hk.2.2.2)) (.int .i64 ((rd_T38 x15_1 x19_2).f1))) (fun _ hk => by first | exact hk.2 | (and_intros <;> first | exact hk | exact hk.1 | exact hk.2 | exact hk.1.1 | exact hk.1.2 | exact hk.2.1 | exact hk.2.2 | exact hk.1.1.1 | exact hk.1.1.2 | exact hk.2.2.1 | exact hk.2.2.2)) (.slice A239_2 ((rd_T38 x15_1 x19_2).f2).length c239_2)) (fun _ hk => by first | exact hk.2 | (and_intros <;> first | exact hk | exact hk.1 | exact hk.2 | exact hk.1.1 | exact hk.1.2 | exact hk.2.1 | exact hk.2.2 | exact hk.1.1.1 | exact hk.1.1.2 | exact hk.2.2.1 | exact hk.2.2.2)) (.bool ((rd_T38 x15_1 x19_2).f3))) (fun _ hk => by first | exact hk.2 | (and_intros <;> first | exact hk | exact hk.1 | exact hk.2 | exact hk.1.1 | exact hk.1.2 | exact hk.2.1 | exact hk.2.2 | exact hk.1.1.1 | exact hk.1.1.2 | exact hk.2.2.1 | exact hk.2.2.2)) (.int .i64 ((rd_T38 x15_1 x19_2).f4))) (fun _ h_ => h_.1)))).2.2) | (with_reducible refine Kd.C_alloc ?_ _) | (with_reducible refine Kd.C_drewN ?_ _) | (with_reducible refine Kd.C_drew ?_))); (case aB => exact (by repeat (first | (with_reducible first | exact HB.out | apply below_alloc | apply pw_below_drewN | apply below_drew1 | refine below_set ?_ GE240.out) | exact HB.out))); (case aF => exact (fun _ _ => trivial)); (case aO => exact ((Kd.R_nil _ _ _ _ (fun _ => True)))); (case aS => exact (below_size (by repeat (first | (with_reducible first | exact HB.out | apply below_alloc | apply pw_below_drewN | apply below_drew1 | refine below_set ?_ GE240.out) | exact HB.out)))); (case aL => have := LMc33.out; omega); intro v242 w40 ho hb hg hat; rw [← Ny241.out] at ho; have n0_ := Aside0.mk (Kd.N_afterv (Kd.N_apart_nil (by (with_reducible repeat (first | apply Kd.N_alloc | apply Kd.N_drewN | apply Kd.N_drew)); exact (Kd.N_mono (Kd.N_far (p := ⟨gb240, 4, none⟩) (Kd.N_far (p := ⟨gb240, 3, none⟩) (Kd.N_far (p := ⟨gb240, 2, none⟩) (Kd.N_far (p := ⟨gb240, 1, none⟩) (Kd.N_far (p := ⟨gb240, 0, none⟩) (Kd.N_mono HO_15.out (fun k_ hk => (⟨hk, hk.2⟩ : _ ∧ k_ ≠ gb240))) (fun _ hk => by first | exact hk.2 | (and_intros <;> first | exact hk | exact hk.1 | exact hk.2 | exact hk.1.1 | exact hk.1.2 | exact hk.2.1 | exact hk.2.2 | exact hk.1.1.1 | exact hk.1.1.2 | exact hk.2.2.1 | exact hk.2.2.2)) (.int .i64 ((rd_T38 x15_1 x19_2).f0))) (fun _ hk => by first | exact hk.2 | (and_intros <;> first | exact hk | exact hk.1 | exact hk.2 | exact hk.1.1 | exact hk.1.2 | exact hk.2.1 | exact hk.2.2 | exact hk.1.1.1 | exact hk.1.1.2 | exact hk.2.2.1 | exact hk.2.2.2)) (.int .i64 ((rd_T38 x15_1 x19_2).f1))) (fun _ hk => by first | exact hk.2 | (and_intros <;> first | exact hk | exact hk.1 | exact hk.2 | exact hk.1.1 | exact hk.1.2 | exact hk.2.1 | exact hk.2.2 | exact hk.1.1.1 | exact hk.1.1.2 | exact hk.2.2.1 | exact hk.2.2.2)) (.slice A239_2 ((rd_T38 x15_1 x19_2).f2).length c239_2)) (fun _ hk => by first | exact hk.2 | (and_intros <;> first | exact hk | exact hk.1 | exact hk.2 | exact hk.1.1 | exact hk.1.2 | exact hk.2.1 | exact hk.2.2 | exact hk.1.1.1 | exact hk.1.1.2 | exact hk.2.2.1 | exact hk.2.2.2)) (.bool ((rd_T38 x15_1 x19_2).f3))) (fun _ hk => by first | exact hk.2 | (and_intros <;> first | exact hk | exact hk.1 | exact hk.2 | exact hk.1.1 | exact hk.1.2 | exact hk.2.1 | exact hk.2.2 | exact hk.1.1.1 | exact hk.1.1.2 | exact hk.2.2.1 | exact hk.2.2.2)) (.int .i64 ((rd_T38 x15_1 x19_2).f4))) (fun _ h_ => h_.1)))) hg hat); have n1_ := Aside0.mk (Kd.N_afterv (Kd.N_apart_nil (by (with_reducible repeat (first | apply Kd.N_alloc | apply Kd.N_drewN | apply Kd.N_drew)); exact (Kd.N_mono (Kd.N_far (p := ⟨gb240, 4, none⟩) (Kd.N_far (p := ⟨gb240, 3, none⟩) (Kd.N_far (p := ⟨gb240, 2, none⟩) (Kd.N_far (p := ⟨gb240, 1, none⟩) (Kd.N_far (p := ⟨gb240, 0, none⟩) (Kd.N_mono HO_18.out (fun k_ hk => (⟨hk, hk.2⟩ : _ ∧ k_ ≠ gb240))) (fun _ hk => by first | exact hk.2 | (and_intros <;> first | exact hk | exact hk.1 | exact hk.2 | exact hk.1.1 | exact hk.1.2 | exact hk.2.1 | exact hk.2.2 | exact hk.1.1.1 | exact hk.1.1.2 | exact hk.2.2.1 | exact hk.2.2.2)) (.int .i64 ((rd_T38 x15_1 x19_2).f0))) (fun _ hk => by first | exact hk.2 | (and_intros <;> first | exact hk | exact hk.1 | exact hk.2 | exact hk.1.1 | exact hk.1.2 | exact hk.2.1 | exact hk.2.2 | exact hk.1.1.1 | exact hk.1.1.2 | exact hk.2.2.1 | exact hk.2.2.2)) (.int .i64 ((rd_T38 x15_1 x19_2).f1))) (fun _ hk => by first | exact hk.2 | (and_intros <;> first | exact hk | exact hk.1 | exact hk.2 | exact hk.1.1 | exact hk.1.2 | exact hk.2.1 | exact hk.2.2 | exact hk.1.1.1 | exact hk.1.1.2 | exact hk.2.2.1 | exact hk.2.2.2)) (.slice A239_2 ((rd_T38 x15_1 x19_2).f2).length c239_2)) (fun _ hk => by first | exact hk.2 | (and_intros <;> first | exact hk | exact hk.1 | exact hk.2 | exact hk.1.1 | exact hk.1.2 | exact hk.2.1 | exact hk.2.2 | exact hk.1.1.1 | exact hk.1.1.2 | exact hk.2.2.1 | exact hk.2.2.2)) (.bool ((rd_T38 x15_1 x19_2).f3))) (fun _ hk => by first | exact hk.2 | (and_intros <;> first | exact hk | exact hk.1 | exact hk.2 | exact hk.1.1 | exact hk.1.2 | exact hk.2.1 | exact hk.2.2 | exact hk.1.1.1 | exact hk.1.1.2 | exact hk.2.2.1 | exact hk.2.2.2)) (.int .i64 ((rd_T38 x15_1 x19_2).f4))) (fun _ h_ => h_.1)))) hg hat); have n2_ := Aside0.mk (Kd.V_afterv (Kd.V_apart_nil (by (with_reducible repeat (first | apply Kd.V_alloc | apply Kd.V_drewN | apply Kd.V_drew)); exact (Kd.V_mono (Kd.V_far (p := ⟨gb240, 4, none⟩) (Kd.V_far (p := ⟨gb240, 3, none⟩) (Kd.V_far (p := ⟨gb240, 2, none⟩) (Kd.V_far (p := ⟨gb240, 1, none⟩) (Kd.V_far (p := ⟨gb240, 0, none⟩) (Kd.V_mono HL239_2.out (fun k_ hk => (⟨hk, hk.2⟩ : _ ∧ k_ ≠ gb240))) (fun _ hk => by first | exact hk.2 | (and_intros <;> first | exact hk | exact hk.1 | exact hk.2 | exact hk.1.1 | exact hk.1.2 | exact hk.2.1 | exact hk.2.2 | exact hk.1.1.1 | exact hk.1.1.2 | exact hk.2.2.1 | exact hk.2.2.2)) (.int .i64 ((rd_T38 x15_1 x19_2).f0))) (fun _ hk => by first | exact hk.2 | (and_intros <;> first | exact hk | exact hk.1 | exact hk.2 | exact hk.1.1 | exact hk.1.2 | exact hk.2.1 | exact hk.2.2 | exact hk.1.1.1 | exact hk.1.1.2 | exact hk.2.2.1 | exact hk.2.2.2)) (.int .i64 ((rd_T38 x15_1 x19_2).f1))) (fun _ hk => by first | exact hk.2 | (and_intros <;> first | exact hk | exact hk.1 | exact hk.2 | exact hk.1.1 | exact hk.1.2 | exact hk.2.1 | exact hk.2.2 | exact hk.1.1.1 | exact hk.1.1.2 | exact hk.2.2.1 | exact hk.2.2.2)) (.slice A239_2 ((rd_T38 x15_1 x19_2).f2).length c239_2)) (fun _ hk => by first | exact hk.2 | (and_intros <;> first | exact hk | exact hk.1 | exact hk.2 | exact hk.1.1 | exact hk.1.2 | exact hk.2.1 | exact hk.2.2 | exact hk.1.1.1 | exact hk.1.1.2 | exact hk.2.2.1 | exact hk.2.2.2)) (.bool ((rd_T38 x15_1 x19_2).f3))) (fun _ hk => by first | exact hk.2 | (and_intros <;> first | exact hk | exact hk.1 | exact hk.2 | exact hk.1.1 | exact hk.1.2 | exact hk.2.1 | exact hk.2.2 | exact hk.1.1.1 | exact hk.1.1.2 | exact hk.2.2.1 | exact hk.2.2.2)) (.int .i64 ((rd_T38 x15_1 x19_2).f4))) (fun _ h_ => h_.1)))) hg hat); have n3_ := Aside0.mk (blk_grown (g := gb240) (o := .cells #[.int .i64 ((rd_T38 x15_1 x19_2).f0), .int .i64 ((rd_T38 x15_1 x19_2).f1), .slice A239_2 ((rd_T38 x15_1 x19_2).f2).length c239_2, .bool ((rd_T38 x15_1 x19_2).f3), .int .i64 ((rd_T38 x15_1 x19_2).f4)] 38 (0, 0)) (by (with_reducible repeat (first | refine blk_drewN ?_ _ | refine blk_drew ?_ | refine blk_alloc ?_ _)); refine blk_put (cs := #[.int .i64 ((rd_T38 x15_1 x19_2).f0), .int .i64 ((rd_T38 x15_1 x19_2).f1), .slice A239_2 ((rd_T38 x15_1 x19_2).f2).length c239_2, .bool ((rd_T38 x15_1 x19_2).f3), .int .i64 0]) ?_ 4 _ rfl; (with_reducible repeat (first | refine blk_drewN ?_ _ | refine blk_drew ?_ | refine blk_alloc ?_ _)); refine blk_put (cs := #[.int .i64 ((rd_T38 x15_1 x19_2).f0), .int .i64 ((rd_T38 x15_1 x19_2).f1), .slice A239_2 ((rd_T38 x15_1 x19_2).f2).length c239_2, .bool false, .int .i64 0]) ?_ 3 _ rfl; (with_reducible repeat (first | refine blk_drewN ?_ _ | refine blk_drew ?_ | refine blk_alloc ?_ _)); refine blk_put (cs := #[.int .i64 ((rd_T38 x15_1 x19_2).f0), .int .i64 ((rd_T38 x15_1 x19_2).f1), .slice none 0 0, .bool false, .int .i64 0]) ?_ 2 _ rfl; (with_reducible repeat (first | refine blk_drewN ?_ _ | refine blk_drew ?_ | refine blk_alloc ?_ _)); refine blk_put (cs := #[.int .i64 ((rd_T38 x15_1 x19_2).f0), .int .i64 0, .slice none 0 0, .bool false, .int .i64 0]) ?_ 1 _ rfl; (with_reducible repeat (first | refine blk_drewN ?_ _ | refine blk_drew ?_ | refine blk_alloc ?_ _)); refine blk_put (cs := #[.int .i64 0, .int .i64 0, .slice none 0 0, .bool false, .int .i64 0]) ?_ 0 _ rfl; (with_reducible repeat (first | refine blk_drewN ?_ _ | refine blk_drew ?_ | refine blk_alloc ?_ _)); exact BK240.out) hg (by simp [Value.ownBlock])); have n4_ := Aside0.mk (hb); have n5_ := Aside0.mk (ho); clear HO_15; clear HO_18; clear HL239_2; clear BK240; clear HB; have HO_15 := n0_; have HO_18 := n1_; have HL239_2 := n2_; have BK240 := n3_; have HB := n4_; have HO243 := n5_; clear n0_ n1_ n2_ n3_ n4_ n5_; clear ho hb hg hat; obtain ⟨Ao41, co41, eo41⟩ := Kd.R_slice HO243.out; subst eo41; have hcz42_0 : w40.cell? ⟨gb240, 0, none⟩ = some (.int .i64 ((rd_T38 x15_1 x19_2).f0)) := (blk_cell BK240.out 0).trans rfl; have hcz42_1 : w40.cell? ⟨gb240, 1, none⟩ = some (.int .i64 ((rd_T38 x15_1 x19_2).f1)) := (blk_cell BK240.out 1).trans rfl; have hcz42_2 : w40.cell? ⟨gb240, 2, none⟩ = some (.slice A239_2 ((rd_T38 x15_1 x19_2).f2).length c239_2) := (blk_cell BK240.out 2).trans rfl; have hcz42_3 : w40.cell? ⟨gb240, 3, none⟩ = some (.bool ((rd_T38 x15_1 x19_2).f3)) := (blk_cell BK240.out 3).trans rfl; have hcz42_4 : w40.cell? ⟨gb240, 4, none⟩ = some (.int .i64 ((rd_T38 x15_1 x19_2).f4)) := (blk_cell BK240.out 4).trans rfl; have hfz42_0 := blk_frozen BK240.out 0; have hfz42_1 := blk_frozen BK240.out 1; have hfz42_2 := blk_frozen BK240.out 2; have hfz42_3 := blk_frozen BK240.out 3; have hfz42_4 := blk_frozen BK240.out 4))
                                go_loopg [21] kj25 (fun kq v21 w' => ∃ (x21_4 : Int) (x241002_4 : List Int) (u241002 : Value), v21 = .int .i64 x21_4 ∧ Aside0 (packthreadkeep_RecvTwice.l2 kq a4 a5 (wrap64 (1 + t223)) x15_1 (t228.length : Int) y234 x19_2 x21_4 ((rd_T38 x15_1 x19_2).f0) ((rd_T38 x15_1 x19_2).f1) x241002_4 ((rd_T38 x15_1 x19_2).f3) ((rd_T38 x15_1 x19_2).f4) = some r) ∧ Aside0 (kq ≤ kj25) ∧ Aside0 (Kd.N k38 38 w' w.heap.size (fun k_ => some k_ ≠ (v235 : Value).ownBlock ∧ some k_ ≠ (u241002 : Value).ownBlock ∧ k_ ≠ gb240) (.slice (some ad233) x15_1.length co14) x15_1) ∧ Aside0 (Kd.N k38 38 w' w.heap.size (fun k_ => some k_ ≠ ((.slice (some ad233) x15_1.length co14) : Value).ownBlock ∧ some k_ ≠ (u241002 : Value).ownBlock ∧ k_ ≠ gb240) v235 y234) ∧ Aside0 (Kd.R (Kd.int .u8) 5 w' w.heap.size (fun _ => True) u241002 x241002_4) ∧ Aside0 (w'.heap[gb240]? = some (.cells #[.int .i64 ((rd_T38 x15_1 x19_2).f0), .int .i64 ((rd_T38 x15_1 x19_2).f1), u241002, .bool ((rd_T38 x15_1 x19_2).f3), .int .i64 ((rd_T38 x15_1 x19_2).f4)] 38 (0, 0))) ∧ Aside0 (Below w.heap.size w w'))
                                case atStart => exact ⟨(0), (y241), (.slice Ao41 y241.length co41), (by first | rfl | (simp; done) | (simp [*]; done)), H', ⟨Nat.le_refl _⟩, ⟨by (try simp only [hl15_1]); (with_reducible repeat (first | apply Kd.N_alloc | apply Kd.N_drewN | apply Kd.N_drew)); exact Kd.N_mono (Kd.N_far (p := ⟨gb240, 2, none⟩) (Kd.N_mono HO_15.out (fun k_ hk => (⟨hk, hk.1.2⟩ : _ ∧ k_ ≠ gb240))) (fun _ hk => by first | exact hk.2 | (and_intros <;> first | exact hk | exact hk.1 | exact hk.2 | exact hk.1.1 | exact hk.1.2 | exact hk.2.1 | exact hk.2.2 | exact hk.1.1.1 | exact hk.1.1.2 | exact hk.2.2.1 | exact hk.2.2.2)) (.slice Ao41 y241.length co41)) (fun _ hk => by first | exact ⟨hk.1.1.1, ⟨hk.1.2, hk.1.1.2⟩⟩ | ((try simp only [and_assoc] at hk); and_intros <;> first | exact hk.1 | exact hk.2.1 | exact hk.2.2.1 | exact hk.2.2.2.1 | exact hk.2.2.2.2.1 | exact hk.2.2.2.2 | exact hk.2.2.2 | exact hk.2.2 | exact hk.2))⟩, ⟨by (try simp only [hl15_1]); (with_reducible repeat (first | apply Kd.N_alloc | apply Kd.N_drewN | apply Kd.N_drew)); exact Kd.N_mono (Kd.N_far (p := ⟨gb240, 2, none⟩) (Kd.N_mono HO_18.out (fun k_ hk => (⟨hk, hk.1.2⟩ : _ ∧ k_ ≠ gb240))) (fun _ hk => by first | exact hk.2 | (and_intros <;> first | exact hk | exact hk.1 | exact hk.2 | exact hk.1.1 | exact hk.1.2 | exact hk.2.1 | exact hk.2.2 | exact hk.1.1.1 | exact hk.1.1.2 | exact hk.2.2.1 | exact hk.2.2.2)) (.slice Ao41 y241.length co41)) (fun _ hk => by first | exact ⟨hk.1.1.1, ⟨hk.1.2, hk.1.1.2⟩⟩ | ((try simp only [and_assoc] at hk); and_intros <;> first | exact hk.1 | exact hk.2.1 | exact hk.2.2.1 | exact hk.2.2.2.1 | exact hk.2.2.2.2.1 | exact hk.2.2.2.2 | exact hk.2.2.2 | exact hk.2.2 | exact hk.2))⟩, ⟨by (try simp only [hl15_1]); (with_reducible repeat (first | apply Kd.R_alloc | apply Kd.R_drewN | apply Kd.R_drew)); exact Kd.R_mono (Kd.R_far (p := ⟨gb240, 2, none⟩) (Kd.R_types HO243.out BK240.out (by decide)) (fun _ hk => by first | exact hk.2 | (and_intros <;> first | exact hk | exact hk.1 | exact hk.2 | exact hk.1.1 | exact hk.1.2 | exact hk.2.1 | exact hk.2.2 | exact hk.1.1.1 | exact hk.1.1.2 | exact hk.2.2.1 | exact hk.2.2.2)) (.slice Ao41 y241.length co41)) (fun _ hk => trivial)⟩, ⟨by (try simp only [hl15_1]); (with_reducible repeat (first | refine blk_drewN ?_ _ | refine blk_drew ?_ | refine blk_alloc ?_ _)); refine blk_put (cs := #[.int .i64 ((rd_T38 x15_1 x19_2).f0), .int .i64 ((rd_T38 x15_1 x19_2).f1), .slice A239_2 ((rd_T38 x15_1 x19_2).f2).length c239_2, .bool ((rd_T38 x15_1 x19_2).f3), .int .i64 ((rd_T38 x15_1 x19_2).f4)]) ?_ 2 _ rfl; (with_reducible repeat (first | refine blk_drewN ?_ _ | refine blk_drew ?_ | refine blk_alloc ?_ _)); exact BK240.out⟩, ⟨by repeat (first | (with_reducible first | exact HB.out | apply below_alloc | apply pw_below_drewN | apply below_drew1 | refine below_set ?_ GE240.out) | exact HB.out)⟩⟩
                                case round =>
                                  clear H'
                                  try clear c1
                                  try clear p1
                                  try clear q1
                                  try clear hx1
                                  try clear c2
                                  try clear p2
                                  try clear q2
                                  try clear hx2
                                  try clear c3
                                  try clear c5
                                  try clear p6
                                  try clear c14
                                  try clear c15
                                  try clear c15b0
                                  try clear c16
                                  try clear c16b0
                                  try clear c17
                                  try clear c17b0
                                  try clear c18
                                  try clear c18b0
                                  try clear c18b1
                                  try clear c19
                                  try clear p19
                                  try clear q19
                                  try clear hx19
                                  try clear hf19
                                  try clear c20
                                  try clear hx20
                                  try clear hf20
                                  try clear c22
                                  try clear c22b0
                                  try clear c23
                                  try clear c23b0
                                  try clear p23
                                  try clear q23
                                  try clear hx23
                                  try clear c24
                                  try clear c24b0
                                  try clear c25
                                  try clear c28
                                  try clear c28b0
                                  try clear c28b1
                                  try clear c30
                                  try clear c31
                                  try clear c31b0
                                  try clear c32
                                  try clear c32b0
                                  try clear c33
                                  try clear hcz35_0
                                  try clear hcz35_1
                                  try clear hcz35_2
                                  try clear hcz35_3
                                  try clear hcz35_4
                                  try clear hcz42_0
                                  try clear hcz42_1
                                  try clear hcz42_2
                                  try clear hcz42_3
                                  try clear hcz42_4
                                  try clear hfz35_0
                                  try clear hfz35_1
                                  try clear hfz35_2
                                  try clear hfz35_3
                                  try clear hfz35_4
                                  try clear hfz42_0
                                  try clear hfz42_1
                                  try clear hfz42_2
                                  try clear hfz42_3
                                  try clear hfz42_4
                                  try clear hx19_0
                                  try clear hx19_1
                                  try clear hx19_2
                                  try clear hx19_3
                                  try clear hx19_4
                                  try clear hx20_4
                                  try clear hx231_0
                                  try clear hx231_1
                                  try clear hx231_2
                                  try clear hx231_3
                                  try clear hx231_4
                                  try clear hx233_0
                                  try clear hx233_1
                                  try clear hx233_2
                                  try clear hx233_3
                                  try clear hx233_4
                                  try clear hx237_0
                                  try clear hx237_1
                                  try clear hx237_2
                                  try clear hx237_3
                                  try clear hx237_4
                                  try clear hx239_0
                                  try clear hx239_1
                                  try clear hx239_2
                                  try clear hx239_3
                                  try clear hx239_4
                                  try clear p1
                                  try clear p19
                                  try clear p2
                                  try clear p23
                                  try clear p231
                                  try clear p233
                                  try clear p237
                                  try clear p239
                                  try clear p6
                                  try clear q1
                                  try clear q19
                                  try clear q2
                                  try clear q23
                                  try clear q231
                                  try clear q233
                                  try clear q237
                                  try clear q239
                                  obtain ⟨x21_4, x241002_4, u241002, rfl, HA, HK4, HO_15, HO_18, HO_241002, BK240, HB⟩ := hrel
                                  cases gk with
                                  | zero => exact absurd HA.out (by simp [packthreadkeep_RecvTwice.l2])
                                  | succ k4 =>
                                    have H := HA.out
                                    clear HA
                                    simp only [packthreadkeep_RecvTwice.l2] at H
                                    by_cases c43 : x21_4 < (x241002_4.length : Int)
                                    · rw [if_pos c43] at H
                                      have c43b0 : decide (x21_4 < (x241002_4.length : Int)) = true := decide_eq_true c43
                                      clear c43
                                      by_cases c44 : 0 ≤ x21_4
                                      · rw [if_pos c44] at H
                                        have c44b0 : decide (0 ≤ x21_4) = true := decide_eq_true c44
                                        clear c44
                                        obtain ⟨y245, hy245⟩ : ∃ y_ : List Int, y_ = (x241002_4.set (x21_4 : Int).toNat (Go.bits .xor .u8 (rd x241002_4 x21_4) a5)) := ⟨_, rfl⟩
                                        replace H : (packthreadkeep_RecvTwice.l2 k4 a4 a5 (wrap64 (1 + t223)) x15_1 (t228.length : Int) y234 x19_2 (wrap64 (x21_4 + 1)) ((rd_T38 x15_1 x19_2).f0) ((rd_T38 x15_1 x19_2).f1) y245 ((rd_T38 x15_1 x19_2).f3) ((rd_T38 x15_1 x19_2).f4)) = some r := by first | (rw [hy245]; with_reducible exact H) | (have H2_ := (Option.bind_some _ _).symm.trans H; rw [hy245]; with_reducible exact H2_) | (have H2_ := (Option.bind_some _ _).symm.trans H; with_reducible exact H2_) | with_reducible exact H | (rw [hy245]; exact H) | exact H
                                        have Ny245 := Aside0.mk hy245
                                        clear hy245
                                        have H' := Aside0.mk H
                                        clear H
                                        have hcz46_0 : wr.cell? ⟨gb240, 0, none⟩ = some (.int .i64 ((rd_T38 x15_1 x19_2).f0)) := (blk_cell BK240.out 0).trans rfl
                                        have hcz46_1 : wr.cell? ⟨gb240, 1, none⟩ = some (.int .i64 ((rd_T38 x15_1 x19_2).f1)) := (blk_cell BK240.out 1).trans rfl
                                        have hcz46_2 : wr.cell? ⟨gb240, 2, none⟩ = some (u241002) := (blk_cell BK240.out 2).trans rfl
                                        have hcz46_3 : wr.cell? ⟨gb240, 3, none⟩ = some (.bool ((rd_T38 x15_1 x19_2).f3)) := (blk_cell BK240.out 3).trans rfl
                                        have hcz46_4 : wr.cell? ⟨gb240, 4, none⟩ = some (.int .i64 ((rd_T38 x15_1 x19_2).f4)) := (blk_cell BK240.out 4).trans rfl
                                        have hfz46_0 := blk_frozen BK240.out 0
                                        have hfz46_1 := blk_frozen BK240.out 1
                                        have hfz46_2 := blk_frozen BK240.out 2
                                        have hfz46_3 := blk_frozen BK240.out 3
                                        have hfz46_4 := blk_frozen BK240.out 4
                                        obtain ⟨Ao47, co47, eo47⟩ := Kd.R_slice HO_241002.out
                                        subst eo47
                                        have p244 : 0 ≤ (x21_4 : Int) := of_decide_eq_true (by first | (with_reducible assumption) | assumption)
                                        have q244 : x21_4 < (x241002_4.length : Int) := of_decide_eq_true (by first | (with_reducible assumption) | assumption)
                                        obtain ⟨ad244, e244, hx244_0⟩ := Kd.at_int (Kd.R_reads' HO_241002.out).2.2 x21_4 p244 q244
                                        cases e244
                                        replace p244 := eq_true p244
                                        replace q244 := eq_true q244
                                        have p45 : 0 ≤ (x21_4 : Int) := of_decide_eq_true (by first | (with_reducible assumption) | assumption)
                                        have q45 : (x21_4 : Int) < ((x241002_4.length : Int) : Int) := of_decide_eq_true (by first | (with_reducible assumption) | assumption)
                                        obtain ⟨go45, co45, eo45, gb45, gl45, cl45, HG45⟩ := Kd.R_form HO_241002.out (by omega)
                                        (first | cases eo45 | (injection eo45 with ea_ en_ ec_; (first | subst ea_ | (injection ea_ with ea_; subst ea_)); subst ec_; clear en_))
                                        have GB45 := Aside0.mk gb45
                                        have GG45 := Aside0.mk HG45
                                        clear gb45 gl45 HG45
                                        (first | simp only [add_plain] at hx244_0 | skip)
                                        obtain ⟨hx45_0, hf45_0⟩ := Kd.R_celln 0 HO_241002.out (x21_4 : Int) p45 q45
                                        replace p45 := eq_true p45
                                        replace q45 := eq_true q45
                                        have HP48 := Kd.R_putg HO_241002.out (x21_4 : Int) (Go.bits .xor .u8 (rd x241002_4 x21_4) a5)
                                        go_wp2_with (first | ((with_reducible refine gate_store (t := 5) (p := 103) rfl ?_); refine store_event (t := 5) (p := 103) (v := ?vo_w49) (w1 := (wr.setCell ⟨go45, (x21_4 : Int).toNat, none⟩ (.int .u8 (Go.bits .xor .u8 (rd x241002_4 x21_4) a5)))) ?hg ?ho ?hn ?hr ?_; (case ho => rfl); (case hg => rfl); (case hn => rfl); (case hr => first | (go_simp; done) | (go_simp; rfl)); intro w49 hw; have hg : wr.grownBy w49 (some go45) := (by rw [hw]; exact HP48.2); have hp_ : Kd.R (Kd.int .u8) 5 w49 w.heap.size (fun _ => True) (.slice (some ⟨go45, 0, none⟩) x241002_4.length co47) y245 := (by rw [hw, Ny245.out]; exact HP48.1); clear HP48; have n0_ := Aside0.mk (Kd.N_afterv (v := (.slice (some ⟨go45, 0, none⟩) x241002_4.length co47)) (v1 := (.slice (some ⟨go45, 0, none⟩) x241002_4.length co47)) (ok := (fun k_ => some k_ ≠ (v235 : Value).ownBlock ∧ k_ ≠ gb240)) (by (with_reducible repeat (first | apply Kd.N_alloc | apply Kd.N_drewN | apply Kd.N_drew)); exact Kd.N_mono HO_15.out (fun _ hk => by first | exact ⟨⟨hk.1, hk.2.2⟩, hk.2.1⟩ | ((try simp only [and_assoc] at hk); and_intros <;> first | exact hk.1 | exact hk.2.1 | exact hk.2.2.1 | exact hk.2.2.2.1 | exact hk.2.2.2.2.1 | exact hk.2.2.2.2 | exact hk.2.2.2 | exact hk.2.2 | exact hk.2))) hg (.inl rfl)); have n1_ := Aside0.mk (Kd.N_afterv (v := (.slice (some ⟨go45, 0, none⟩) x241002_4.length co47)) (v1 := (.slice (some ⟨go45, 0, none⟩) x241002_4.length co47)) (ok := (fun k_ => some k_ ≠ (.slice (some ad233) x15_1.length co14 : Value).ownBlock ∧ k_ ≠ gb240)) (by (with_reducible repeat (first | apply Kd.N_alloc | apply Kd.N_drewN | apply Kd.N_drew)); exact Kd.N_mono HO_18.out (fun _ hk => by first | exact ⟨⟨hk.1, hk.2.2⟩, hk.2.1⟩ | ((try simp only [and_assoc] at hk); and_intros <;> first | exact hk.1 | exact hk.2.1 | exact hk.2.2.1 | exact hk.2.2.2.1 | exact hk.2.2.2.2.1 | exact hk.2.2.2.2 | exact hk.2.2.2 | exact hk.2.2 | exact hk.2))) hg (.inl rfl)); have n2_ := Aside0.mk (hp_); have n3_ := Aside0.mk (blk_grown (g := gb240) (o := .cells #[.int .i64 ((rd_T38 x15_1 x19_2).f0), .int .i64 ((rd_T38 x15_1 x19_2).f1), .slice (some ⟨go45, 0, none⟩) x241002_4.length co47, .bool ((rd_T38 x15_1 x19_2).f3), .int .i64 ((rd_T38 x15_1 x19_2).f4)] 38 (0, 0)) (by (with_reducible repeat (first | refine blk_drewN ?_ _ | refine blk_drew ?_ | refine blk_alloc ?_ _)); exact BK240.out) hg (Kd.R_ne HO_241002.out BK240.out (by decide))); have n4_ := Aside0.mk ((by rw [hw]; exact below_set (HB.out) GB45.out : Below w.heap.size w w49)); clear HO_15; clear HO_18; clear HO_241002; clear BK240; clear HB; have HO_15 := n0_; have HO_18 := n1_; have HO_241002 := n2_; have BK240 := n3_; have HB := n4_; clear n0_ n1_ n2_ n3_ n4_; clear hg hw hp_))
                                        go_roundg k4
                                        case measure => have := HK1.out; have := HK2.out; have := HJ25.out; have := HK4.out; omega
                                        case rel => exact ⟨(wrap64 (x21_4 + 1)), (y245), (.slice (some ⟨go45, 0, none⟩) x241002_4.length co47), (by first | rfl | (simp; done) | (simp [*]; done)), H', ⟨by have := HK1.out; have := HK2.out; have := HJ25.out; have := HK4.out; omega⟩, ⟨by (try simp only [hl15_1]); (with_reducible repeat (first | apply Kd.N_alloc | apply Kd.N_drewN | apply Kd.N_drew)); exact Kd.N_mono HO_15.out (fun _ hk => by first | exact ⟨hk.1.1, ⟨hk.2, hk.1.2⟩⟩ | ((try simp only [and_assoc] at hk); and_intros <;> first | exact hk.1 | exact hk.2.1 | exact hk.2.2.1 | exact hk.2.2.2.1 | exact hk.2.2.2.2.1 | exact hk.2.2.2.2 | exact hk.2.2.2 | exact hk.2.2 | exact hk.2))⟩, ⟨by (try simp only [hl15_1]); (with_reducible repeat (first | apply Kd.N_alloc | apply Kd.N_drewN | apply Kd.N_drew)); exact Kd.N_mono HO_18.out (fun _ hk => by first | exact ⟨hk.1.1, ⟨hk.2, hk.1.2⟩⟩ | ((try simp only [and_assoc] at hk); and_intros <;> first | exact hk.1 | exact hk.2.1 | exact hk.2.2.1 | exact hk.2.2.2.1 | exact hk.2.2.2.2.1 | exact hk.2.2.2.2 | exact hk.2.2.2 | exact hk.2.2 | exact hk.2))⟩, ⟨by (try simp only [hl15_1]); (with_reducible repeat (first | apply Kd.R_alloc | apply Kd.R_drewN | apply Kd.R_drew)); exact HO_241002.out⟩, ⟨by (try simp only [hl15_1]); (with_reducible repeat (first | refine blk_drewN ?_ _ | refine blk_drew ?_ | refine blk_alloc ?_ _)); exact BK240.out⟩, ⟨by repeat (first | (with_reducible first | exact HB.out | apply below_alloc | apply pw_below_drewN | apply below_drew1 | refine below_set ?_ GE240.out) | exact HB.out)⟩⟩
                                      · rw [if_neg c44] at H
                                        exact absurd H (by simp)
                                    · rw [if_neg c43] at H
                                      have c43b0 : decide (x21_4 < (x241002_4.length : Int)) = false := decide_eq_false c43
                                      clear c43
                                      by_cases c50 : y234.length < 2513169434916
                                      · rw [if_pos c50] at H
                                        have LMc50 := Aside0.mk c50
                                        clear c50
                                        obtain ⟨y246, hy246⟩ : ∃ y_ : List (S38), y_ = (y234 ++ [(⟨((rd_T38 x15_1 x19_2).f0), ((rd_T38 x15_1 x19_2).f1), x241002_4, ((rd_T38 x15_1 x19_2).f3), ((rd_T38 x15_1 x19_2).f4)⟩ : S38)]) := ⟨_, rfl⟩
                                        replace H : (packthreadkeep_RecvTwice.l1 k4 a4 a5 (wrap64 (1 + t223)) x15_1 (t228.length : Int) y246 (wrap64 (x19_2 + 1))) = some r := by first | (rw [hy246]; with_reducible exact H) | (have H2_ := (Option.bind_some _ _).symm.trans H; rw [hy246]; with_reducible exact H2_) | (have H2_ := (Option.bind_some _ _).symm.trans H; with_reducible exact H2_) | with_reducible exact H | (rw [hy246]; exact H) | exact H
                                        have Ny246 := Aside0.mk hy246
                                        clear hy246
                                        have H' := Aside0.mk H
                                        clear H
                                        have hcz51_0 : wr.cell? ⟨gb240, 0, none⟩ = some (.int .i64 ((rd_T38 x15_1 x19_2).f0)) := (blk_cell BK240.out 0).trans rfl
                                        have hcz51_1 : wr.cell? ⟨gb240, 1, none⟩ = some (.int .i64 ((rd_T38 x15_1 x19_2).f1)) := (blk_cell BK240.out 1).trans rfl
                                        have hcz51_2 : wr.cell? ⟨gb240, 2, none⟩ = some (u241002) := (blk_cell BK240.out 2).trans rfl
                                        have hcz51_3 : wr.cell? ⟨gb240, 3, none⟩ = some (.bool ((rd_T38 x15_1 x19_2).f3)) := (blk_cell BK240.out 3).trans rfl
                                        have hcz51_4 : wr.cell? ⟨gb240, 4, none⟩ = some (.int .i64 ((rd_T38 x15_1 x19_2).f4)) := (blk_cell BK240.out 4).trans rfl
                                        have hfz51_0 := blk_frozen BK240.out 0
                                        have hfz51_1 := blk_frozen BK240.out 1
                                        have hfz51_2 := blk_frozen BK240.out 2
                                        have hfz51_3 := blk_frozen BK240.out 3
                                        have hfz51_4 := blk_frozen BK240.out 4
                                        obtain ⟨Ao52, co52, eo52⟩ := Kd.R_slice HO_241002.out
                                        subst eo52
                                        go_wp2_with (first | ((with_reducible refine gate_builtin (b := .append) (xs := #[.tmp 104, .tmp 106]) rfl ?_); at_builtin; refine Kd.N_append k38 (w0 := w) w.heap.size rfl (.tmp 104) (.tmp 106) 26 38 (.agg #[(.int .i64 0), (.int .i64 0), (.slice none 0 0), (.bool false), (.int .i64 0)]) 56 rfl Try.underlying26 info38 rfl (by decide) (by omega) v235 y234 (⟨((rd_T38 x15_1 x19_2).f0), ((rd_T38 x15_1 x19_2).f1), x241002_4, ((rd_T38 x15_1 x19_2).f3), ((rd_T38 x15_1 x19_2).f4)⟩ : S38) [.int .i64 ((rd_T38 x15_1 x19_2).f0), .int .i64 ((rd_T38 x15_1 x19_2).f1), .slice Ao52 x241002_4.length co52, .bool ((rd_T38 x15_1 x19_2).f3), .int .i64 ((rd_T38 x15_1 x19_2).f4)] (fun k_ => some k_ ≠ (.slice (some ad233) x15_1.length co14 : Value).ownBlock ∧ k_ ≠ gb240) (fun k_ => ((fun k_ => some k_ ≠ (.slice (some ad233) x15_1.length co14 : Value).ownBlock ∧ k_ ≠ gb240)) k_ ∧ some k_ ≠ (v235 : Value).ownBlock) rfl rfl ?aP (fun _ hk => hk) ?aF ?aO ?aB ?aS ?aL ?_; (case aP => exact (k38_mkF _ _ (⟨((rd_T38 x15_1 x19_2).f0), ((rd_T38 x15_1 x19_2).f1), x241002_4, ((rd_T38 x15_1 x19_2).f3), ((rd_T38 x15_1 x19_2).f4)⟩ : S38) (Kd.R_reads' (Kd.R_mono (ok' := (fun k_ => ((fun k_ => some k_ ≠ (.slice (some ad233) x15_1.length co14 : Value).ownBlock ∧ k_ ≠ gb240)) k_ ∧ some k_ ≠ (v235 : Value).ownBlock)) (Kd.R_types (Kd.R_apart' (Kd.R_apart' (HO_241002.out) (Kd.N_typed HO_15.out) (by decide)) (Kd.N_typed HO_18.out) (by decide)) BK240.out (by decide)) (fun k_ hk => ⟨⟨hk.1.1.2, hk.2⟩, hk.1.2⟩))).2.1 (Kd.R_F (Kd.R_mono (ok' := (fun k_ => ((fun k_ => some k_ ≠ (.slice (some ad233) x15_1.length co14 : Value).ownBlock ∧ k_ ≠ gb240)) k_ ∧ some k_ ≠ (v235 : Value).ownBlock)) (Kd.R_types (Kd.R_apart' (Kd.R_apart' (HO_241002.out) (Kd.N_typed HO_15.out) (by decide)) (Kd.N_typed HO_18.out) (by decide)) BK240.out (by decide)) (fun k_ hk => ⟨⟨hk.1.1.2, hk.2⟩, hk.1.2⟩))))); (case aB => exact (by repeat (first | (with_reducible first | exact HB.out | apply below_alloc | apply pw_below_drewN | apply below_drew1 | refine below_set ?_ GE240.out) | exact HB.out))); (case aF => exact (fun k_ hk => ⟨Kd.fresh' (Kd.N_lt (by (with_reducible repeat (first | apply Kd.N_alloc | apply Kd.N_drewN | apply Kd.N_drew)); exact HO_15.out)) k_ hk, Kd.freshB (g := gb240) (o := .cells #[.int .i64 ((rd_T38 x15_1 x19_2).f0), .int .i64 ((rd_T38 x15_1 x19_2).f1), .slice Ao52 x241002_4.length co52, .bool ((rd_T38 x15_1 x19_2).f3), .int .i64 ((rd_T38 x15_1 x19_2).f4)] 38 (0, 0)) (by (with_reducible repeat (first | refine blk_drewN ?_ _ | refine blk_drew ?_ | refine blk_alloc ?_ _)); exact BK240.out) k_ hk⟩)); (case aO => exact (by (with_reducible repeat (first | apply Kd.N_alloc | apply Kd.N_drewN | apply Kd.N_drew)); exact Kd.N_mono HO_18.out (fun _ hk => by first | exact ⟨hk.1, hk.2.2⟩ | (and_intros <;> first | exact hk | exact hk.1 | exact hk.2 | exact hk.1.1 | exact hk.1.2 | exact hk.2.1 | exact hk.2.2 | exact hk.1.1.1 | exact hk.1.1.2 | exact hk.2.2.1 | exact hk.2.2.2)))); (case aS => exact (below_size (by repeat (first | (with_reducible first | exact HB.out | apply below_alloc | apply pw_below_drewN | apply below_drew1 | refine below_set ?_ GE240.out) | exact HB.out)))); (case aL => have := LMc50.out; omega); intro v247 w53 ho hb hg hat; rw [← Ny246.out] at ho; have n0_ := Aside0.mk (Kd.N_afterv (ok := (fun k_ => some k_ ≠ (.slice Ao52 x241002_4.length co52 : Value).ownBlock ∧ k_ ≠ gb240)) (by (with_reducible repeat (first | apply Kd.N_alloc | apply Kd.N_drewN | apply Kd.N_drew)); exact Kd.N_mono HO_15.out (fun _ hk => by first | exact ⟨⟨hk.2.1, hk.2.2⟩, hk.1⟩ | ((try simp only [and_assoc] at hk); and_intros <;> first | exact hk.1 | exact hk.2.1 | exact hk.2.2.1 | exact hk.2.2.2.1 | exact hk.2.2.2.2.1 | exact hk.2.2.2.2 | exact hk.2.2.2 | exact hk.2.2 | exact hk.2))) hg hat); have n1_ := Aside0.mk (blk_grown (g := gb240) (o := .cells #[.int .i64 ((rd_T38 x15_1 x19_2).f0), .int .i64 ((rd_T38 x15_1 x19_2).f1), .slice Ao52 x241002_4.length co52, .bool ((rd_T38 x15_1 x19_2).f3), .int .i64 ((rd_T38 x15_1 x19_2).f4)] 38 (0, 0)) (by (with_reducible repeat (first | refine blk_drewN ?_ _ | refine blk_drew ?_ | refine blk_alloc ?_ _)); exact BK240.out) hg (Kd.N_away HO_18.out (fun _ hk => by first | exact hk.2.2 | (and_intros <;> first | exact hk | exact hk.1 | exact hk.2 | exact hk.1.1 | exact hk.1.2 | exact hk.2.1 | exact hk.2.2 | exact hk.1.1.1 | exact hk.1.1.2 | exact hk.2.2.1 | exact hk.2.2.2)))); have n2_ := Aside0.mk (hb); have n3_ := Aside0.mk (ho); clear HO_15; clear BK240; clear HB; clear HO_18; clear HO_241002; have HO_15 := n0_; have BK240 := n1_; have HB := n2_; have HO248 := n3_; clear n0_ n1_ n2_ n3_; clear ho hb hg hat))
                                        go_roundg k4
                                        case measure => have := HK1.out; have := HK2.out; have := HJ25.out; have := HK4.out; omega
                                        case rel => exact ⟨(y246), (wrap64 (x19_2 + 1)), (by first | rfl | (simp; done) | (simp [*]; done)), H', ⟨by have := HK1.out; have := HK2.out; have := HJ25.out; have := HK4.out; omega⟩, ⟨by (try simp only [hl15_1]); (with_reducible repeat (first | apply Kd.N_alloc | apply Kd.N_drewN | apply Kd.N_drew)); exact Kd.N_mono HO_15.out (fun _ hk => by first | exact hk.2 | (and_intros <;> first | exact hk | exact hk.1 | exact hk.2 | exact hk.1.1 | exact hk.1.2 | exact hk.2.1 | exact hk.2.2 | exact hk.1.1.1 | exact hk.1.1.2 | exact hk.2.2.1 | exact hk.2.2.2))⟩, ⟨by (try simp only [hl15_1]); (with_reducible repeat (first | apply Kd.N_alloc | apply Kd.N_drewN | apply Kd.N_drew)); exact Kd.N_mono HO248.out (fun _ hk => by first | exact hk.1 | (and_intros <;> first | exact hk | exact hk.1 | exact hk.2 | exact hk.1.1 | exact hk.1.2 | exact hk.2.1 | exact hk.2.2 | exact hk.1.1.1 | exact hk.1.1.2 | exact hk.2.2.1 | exact hk.2.2.2))⟩, ⟨by repeat (first | (with_reducible first | exact HB.out | apply below_alloc | apply pw_below_drewN | apply below_drew1 | refine below_set ?_ GE240.out) | exact HB.out)⟩⟩
                                      · rw [if_neg c50] at H
                                        exact absurd H (by simp)
                              · rw [if_neg c33] at H
                                exact absurd H (by simp)
                            · rw [if_neg c32] at H
                              exact absurd H (by simp)
                          · rw [if_neg c31] at H
                            exact absurd H (by simp)
                        · replace c30 := Bool.eq_false_iff.mpr c30
                          subst c30
                          have H1 : (packthreadkeep_RecvTwice.l1 kj25 a4 a5 (wrap64 (1 + t223)) x15_1 (t228.length : Int) y234 (wrap64 (x19_2 + 1))) = some r := by rw [if_neg (show ¬ (false = true) by decide)] at H; exact H
                          clear H
                          have H := H1
                          clear H1
                          have H' := Aside0.mk H
                          clear H
                          go_wp2
                          go_roundg kj25
                          case measure => have := HK1.out; have := HK2.out; have := HJ25.out; omega
                          case rel => exact ⟨(y234), (wrap64 (x19_2 + 1)), (by first | rfl | (simp; done) | (simp [*]; done)), H', ⟨by have := HK1.out; have := HK2.out; have := HJ25.out; omega⟩, ⟨by (try simp only [hl15_1]); (with_reducible repeat (first | apply Kd.N_alloc | apply Kd.N_drewN | apply Kd.N_drew)); exact HO_15.out⟩, ⟨by (try simp only [hl15_1]); (with_reducible repeat (first | apply Kd.N_alloc | apply Kd.N_drewN | apply Kd.N_drew)); exact HO_18.out⟩, ⟨by repeat (first | (with_reducible first | exact HB.out | apply below_alloc | apply pw_below_drewN | apply below_drew1) | exact HB.out)⟩⟩
                  · rw [if_neg c25] at H
                    exact absurd H (by simp)
                · rw [if_neg c24] at H
                  exact absurd H (by simp)
              · rw [if_neg c23] at H
                exact absurd H (by simp)
            · rw [if_neg c22] at H
              have c22b0 : decide (x19_2 < (t228.length : Int)) = false := decide_eq_false c22
              (try rw [hl15_1] at c22b0)
              clear c22
              by_cases c54 : x15_1.length < 2513169434916
              · rw [if_pos c54] at H
                have LMc54 := Aside0.mk c54
                clear c54
                obtain ⟨y249, hy249⟩ : ∃ y_ : List (S38), y_ = (x15_1 ++ [(⟨2, 0, ([] : List Int), false, 4096⟩ : S38)]) := ⟨_, rfl⟩
                replace H : (if x18_2.length < 2513169434916 then ((packthreadkeep_hearer.f k2 (wrap64 (1 + t223)) y249).bind fun bt255 => ((packthreadkeep_hearer.f k2 (wrap64 (1 + t223)) (x18_2 ++ [(⟨2, 0, ([] : List Int), false, 4096⟩ : S38)])).bind fun bt259 => (if bt255.2 = true then (packthreadkeep_RecvTwice.j4 k2 bt255.1 bt259.1 (!bt259.2)) else (packthreadkeep_RecvTwice.j4 k2 bt255.1 bt259.1 true)))) else (none)) = some r := by first | (rw [hy249]; with_reducible exact H) | (have H2_ := (Option.bind_some _ _).symm.trans H; rw [hy249]; with_reducible exact H2_) | (have H2_ := (Option.bind_some _ _).symm.trans H; with_reducible exact H2_) | with_reducible exact H | (rw [hy249]; exact H) | exact H
                have Ny249 := Aside0.mk hy249
                clear hy249
                by_cases c55 : x18_2.length < 2513169434916
                · rw [if_pos c55] at H
                  have LMc55 := Aside0.mk c55
                  clear c55
                  obtain ⟨y252, hy252⟩ : ∃ y_ : List (S38), y_ = (x18_2 ++ [(⟨2, 0, ([] : List Int), false, 4096⟩ : S38)]) := ⟨_, rfl⟩
                  replace H : ((packthreadkeep_hearer.f k2 (wrap64 (1 + t223)) y249).bind fun bt255 => ((packthreadkeep_hearer.f k2 (wrap64 (1 + t223)) y252).bind fun bt259 => (if bt255.2 = true then (packthreadkeep_RecvTwice.j4 k2 bt255.1 bt259.1 (!bt259.2)) else (packthreadkeep_RecvTwice.j4 k2 bt255.1 bt259.1 true)))) = some r := by first | (rw [hy252]; with_reducible exact H) | (have H2_ := (Option.bind_some _ _).symm.trans H; rw [hy252]; with_reducible exact H2_) | (have H2_ := (Option.bind_some _ _).symm.trans H; with_reducible exact H2_) | with_reducible exact H | (rw [hy252]; exact H) | exact H
                  have Ny252 := Aside0.mk hy252
                  clear hy252
                  replace H := Option.bind_eq_some_iff.mp H
                  obtain ⟨⟨t255, t258⟩, A560, H⟩ := H
                  replace H : ((packthreadkeep_hearer.f k2 (wrap64 (1 + t223)) y252).bind fun bt259 => (if t258 = true then (packthreadkeep_RecvTwice.j4 k2 t255 bt259.1 (!bt259.2)) else (packthreadkeep_RecvTwice.j4 k2 t255 bt259.1 true))) = some r := H
                  have A56 := Aside0.mk A560
                  clear A560
                  replace H := Option.bind_eq_some_iff.mp H
                  obtain ⟨⟨t259, t262⟩, A570, H⟩ := H
                  replace H : (if t258 = true then (packthreadkeep_RecvTwice.j4 k2 t255 t259 (!t262)) else (packthreadkeep_RecvTwice.j4 k2 t255 t259 true)) = some r := H
                  have A57 := Aside0.mk A570
                  clear A570
                  have HC58 := Aside0.mk H
                  clear H
                  go_upto_region 27 with (first | ((with_reducible refine gate_builtin (b := .append) (xs := #[.tmp 108, .tmp 110]) rfl ?_); at_builtin; refine Kd.N_append k38 (w0 := w) w.heap.size rfl (.tmp 108) (.tmp 110) 26 38 (.agg #[(.int .i64 0), (.int .i64 0), (.slice none 0 0), (.bool false), (.int .i64 0)]) 56 rfl Try.underlying26 info38 rfl (by decide) (by omega) (.slice Ao14 x15_1.length co14) x15_1 (⟨2, 0, ([] : List Int), false, 4096⟩ : S38) [.int .i64 2, .int .i64 0, .slice none 0 0, .bool false, .int .i64 4096] (fun k_ => some k_ ≠ (u18 : Value).ownBlock) (fun k_ => ((fun k_ => some k_ ≠ (u18 : Value).ownBlock)) k_ ∧ some k_ ≠ (.slice Ao14 x15_1.length co14 : Value).ownBlock) rfl rfl ?aP (fun _ hk => hk) ?aF ?aO ?aB ?aS ?aL ?_; (case aP => exact (k38_mkF _ _ (⟨2, 0, ([] : List Int), false, 4096⟩ : S38) (Nat.le_refl _) (Kd.F_nil _ _ _))); (case aB => exact (by repeat (first | (with_reducible first | exact HB.out | apply below_alloc | apply pw_below_drewN | apply below_drew1) | exact HB.out))); (case aF => exact (fun k_ hk => Kd.fresh' (Kd.N_lt (by (with_reducible repeat (first | apply Kd.N_alloc | apply Kd.N_drewN | apply Kd.N_drew)); exact HO_18.out)) k_ hk)); (case aO => exact (by (with_reducible repeat (first | apply Kd.N_alloc | apply Kd.N_drewN | apply Kd.N_drew)); exact HO_15.out)); (case aS => exact (below_size (by repeat (first | (with_reducible first | exact HB.out | apply below_alloc | apply pw_below_drewN | apply below_drew1) | exact HB.out)))); (case aL => have := LMc54.out; omega); intro v250 w59 ho hb hg hat; rw [← Ny249.out] at ho; have n0_ := Aside0.mk (Kd.N_afterv (ok := (fun _ => True)) (by (with_reducible repeat (first | apply Kd.N_alloc | apply Kd.N_drewN | apply Kd.N_drew)); exact Kd.N_mono HO_18.out (fun _ hk => by first | exact ⟨trivial, hk⟩ | (and_intros <;> first | exact hk | exact hk.1 | exact hk.2 | exact hk.1.1 | exact hk.1.2 | exact hk.2.1 | exact hk.2.2 | exact hk.1.1.1 | exact hk.1.1.2 | exact hk.2.2.1 | exact hk.2.2.2))) hg hat); have n1_ := Aside0.mk (hb); have n2_ := Aside0.mk (ho); clear HO_18; clear HB; clear HO_15; have HO_18 := n0_; have HB := n1_; have HO251 := n2_; clear n0_ n1_ n2_; clear ho hb hg hat) | ((with_reducible refine gate_builtin (b := .append) (xs := #[.tmp 112, .tmp 114]) rfl ?_); at_builtin; refine Kd.N_append k38 (w0 := w) w.heap.size rfl (.tmp 112) (.tmp 114) 26 38 (.agg #[(.int .i64 0), (.int .i64 0), (.slice none 0 0), (.bool false), (.int .i64 0)]) 56 rfl Try.underlying26 info38 rfl (by decide) (by omega) u18 x18_2 (⟨2, 0, ([] : List Int), false, 4096⟩ : S38) [.int .i64 2, .int .i64 0, .slice none 0 0, .bool false, .int .i64 4096] (fun k_ => some k_ ≠ (v250 : Value).ownBlock) (fun k_ => ((fun k_ => some k_ ≠ (v250 : Value).ownBlock)) k_ ∧ some k_ ≠ (u18 : Value).ownBlock) rfl rfl ?aP (fun _ hk => hk) ?aF ?aO ?aB ?aS ?aL ?_; (case aP => exact (k38_mkF _ _ (⟨2, 0, ([] : List Int), false, 4096⟩ : S38) (Nat.le_refl _) (Kd.F_nil _ _ _))); (case aB => exact (by repeat (first | (with_reducible first | exact HB.out | apply below_alloc | apply pw_below_drewN | apply below_drew1) | exact HB.out))); (case aF => exact (fun k_ hk => Kd.fresh' (Kd.N_lt (by (with_reducible repeat (first | apply Kd.N_alloc | apply Kd.N_drewN | apply Kd.N_drew)); exact HO251.out)) k_ hk)); (case aO => exact (by (with_reducible repeat (first | apply Kd.N_alloc | apply Kd.N_drewN | apply Kd.N_drew)); exact Kd.N_mono HO_18.out (fun _ hk => by first | exact hk.2 | (and_intros <;> first | exact hk | exact hk.1 | exact hk.2 | exact hk.1.1 | exact hk.1.2 | exact hk.2.1 | exact hk.2.2 | exact hk.1.1.1 | exact hk.1.1.2 | exact hk.2.2.1 | exact hk.2.2.2)))); (case aS => exact (below_size (by repeat (first | (with_reducible first | exact HB.out | apply below_alloc | apply pw_below_drewN | apply below_drew1) | exact HB.out)))); (case aL => have := LMc55.out; omega); intro v253 w60 ho hb hg hat; rw [← Ny252.out] at ho; have n0_ := Aside0.mk (Kd.N_afterv (ok := (fun _ => True)) (by (with_reducible repeat (first | apply Kd.N_alloc | apply Kd.N_drewN | apply Kd.N_drew)); exact Kd.N_mono HO251.out (fun _ hk => by first | exact ⟨trivial, hk⟩ | (and_intros <;> first | exact hk | exact hk.1 | exact hk.2 | exact hk.1.1 | exact hk.1.2 | exact hk.2.1 | exact hk.2.2 | exact hk.1.1.1 | exact hk.1.1.2 | exact hk.2.2.1 | exact hk.2.2.2))) hg hat); have n1_ := Aside0.mk (hb); have n2_ := Aside0.mk (ho); clear HO251; clear HB; clear HO_18; have HO251 := n0_; have HB := n1_; have HO254 := n2_; clear n0_ n1_ n2_; clear ho hb hg hat; obtain ⟨Ao61, co61, eo61⟩ := Kd.N_slice HO251.out; subst eo61) | ((with_reducible refine gate_callee (f := 17) rfl ?_); refine goesL_ (some 119) rfl rfl Try.func17 (by kernel_rfl) rfl #[.int .i64 (wrap64 (1 + t223)), .slice Ao61 y249.length co61] rfl (by (try simp only [List.map_toArray, List.map_cons, List.map_nil]); first | done | rfl | (simp only [List.length_drop, List.length_take]; rfl)) ?_; (with_reducible refine (packthreadkeep_hearer.calls k2 (wrap64 (1 + t223)) (fun k_ => (True ∧ some k_ ≠ (v253 : Value).ownBlock)) _ _ y249 t255 t258 _ ?side1 A56.out).mono ?_); (case side1 => exact Kd.N_V (HO251.out)); rintro e w62 ⟨v256, rfl, ho0, hb⟩; refine ⟨_, rfl, ?_⟩; have n0_ := Aside0.mk (Kd.N_elder' (by (with_reducible repeat (first | apply Kd.N_alloc | apply Kd.N_drewN | apply Kd.N_drew)); exact HO251.out) (Kd.N_base ho0) hb); have n1_ := Aside0.mk (Kd.N_elder' (by (with_reducible repeat (first | apply Kd.N_alloc | apply Kd.N_drewN | apply Kd.N_drew)); exact HO254.out) (Kd.N_base ho0) hb); have n2_ := Aside0.mk (Kd.N_lower (Kd.N_mono (ok' := fun k_ => some k_ ≠ (v253 : Value).ownBlock) ho0 (fun k_ hk_ => Or.elim hk_ (fun hs_ => hs_.2) (fun hn_ => (Kd.fresh' (Kd.N_lt (by (with_reducible repeat (first | apply Kd.N_alloc | apply Kd.N_drewN | apply Kd.N_drew)); exact HO254.out)) k_ hn_)))) (below_size (by repeat (first | (with_reducible first | exact HB.out | apply below_alloc | apply pw_below_drewN | apply below_drew1) | exact HB.out)))); have n3_ := Aside0.mk (below_step (by repeat (first | (with_reducible first | exact HB.out | apply below_alloc | apply pw_below_drewN | apply below_drew1) | exact HB.out)) hb); clear HO251; clear HO254; clear HB; have HO251 := n0_; have HO254 := n1_; have HO257 := n2_; have HB := n3_; clear n0_ n1_ n2_ n3_; (try clear hb); (try clear hb2); (try clear hk); (try clear hi); (try clear ho0); obtain ⟨Ao63, co63, eo63⟩ := Kd.N_slice HO254.out; subst eo63) | ((with_reducible refine gate_callee (f := 17) rfl ?_); refine goesL_ (some 125) rfl rfl Try.func17 (by kernel_rfl) rfl #[.int .i64 (wrap64 (1 + t223)), .slice Ao63 y252.length co63] rfl (by (try simp only [List.map_toArray, List.map_cons, List.map_nil]); first | done | rfl | (simp only [List.length_drop, List.length_take]; rfl)) ?_; (with_reducible refine (packthreadkeep_hearer.calls k2 (wrap64 (1 + t223)) (fun k_ => (some k_ ≠ (.slice Ao61 y249.length co61 : Value).ownBlock ∧ some k_ ≠ (v256 : Value).ownBlock)) _ _ y252 t259 t262 _ ?side1 A57.out).mono ?_); (case side1 => exact Kd.N_V (HO254.out)); rintro e w64 ⟨v260, rfl, ho0, hb⟩; refine ⟨_, rfl, ?_⟩; have n0_ := Aside0.mk (Kd.N_elder' (by (with_reducible repeat (first | apply Kd.N_alloc | apply Kd.N_drewN | apply Kd.N_drew)); exact HO251.out) (Kd.N_base ho0) hb); have n1_ := Aside0.mk (Kd.N_elder' (by (with_reducible repeat (first | apply Kd.N_alloc | apply Kd.N_drewN | apply Kd.N_drew)); exact HO254.out) (Kd.N_base ho0) hb); have n2_ := Aside0.mk (Kd.N_elder' (by (with_reducible repeat (first | apply Kd.N_alloc | apply Kd.N_drewN | apply Kd.N_drew)); exact HO257.out) (Kd.N_base ho0) hb); have n3_ := Aside0.mk (Kd.N_lower (Kd.N_mono (ok' := fun k_ => some k_ ≠ (.slice Ao61 y249.length co61 : Value).ownBlock ∧ some k_ ≠ (v256 : Value).ownBlock) ho0 (fun k_ hk_ => ⟨Or.elim hk_ (fun hs_ => hs_.1) (fun hn_ => (Kd.fresh' (Kd.N_lt (by (with_reducible repeat (first | apply Kd.N_alloc | apply Kd.N_drewN | apply Kd.N_drew)); exact HO251.out)) k_ hn_)), Or.elim hk_ (fun hs_ => hs_.2) (fun hn_ => (Kd.fresh' (Kd.N_lt (by (with_reducible repeat (first | apply Kd.N_alloc | apply Kd.N_drewN | apply Kd.N_drew)); exact HO257.out)) k_ hn_))⟩)) (below_size (by repeat (first | (with_reducible first | exact HB.out | apply below_alloc | apply pw_below_drewN | apply below_drew1) | exact HB.out)))); have n4_ := Aside0.mk (below_step (by repeat (first | (with_reducible first | exact HB.out | apply below_alloc | apply pw_below_drewN | apply below_drew1) | exact HB.out)) hb); clear HO251; clear HO254; clear HO257; clear HB; have HO251 := n0_; have HO254 := n1_; have HO257 := n2_; have HO261 := n3_; have HB := n4_; clear n0_ n1_ n2_ n3_ n4_; (try clear hb); (try clear hb2); (try clear hk); (try clear hi); (try clear ho0)))
                  (try simp only [Act.put, List.setIfInBounds_toArray, List.set_cons_zero, List.set_cons_succ])
                  go_cut [133] (fun v133 wc => ∃ (kq : Nat) (x133_57 : Bool), v133 = .bool x133_57 ∧ Aside0 (packthreadkeep_RecvTwice.j4 kq t255 t259 x133_57 = some r) ∧ Aside0 (kq ≤ k2) ∧ Aside0 (Kd.N k34 34 wc w.heap.size (fun k_ => some k_ ≠ (v260 : Value).ownBlock) v256 t255) ∧ Aside0 (Kd.N k34 34 wc w.heap.size (fun k_ => some k_ ≠ (v256 : Value).ownBlock) v260 t259) ∧ Aside0 (Below w.heap.size w wc))
                  case first =>
                    have H := HC58.out
                    clear HC58
                    by_cases c65 : t258 = true
                    · subst c65
                      have H1 : (packthreadkeep_RecvTwice.j4 k2 t255 t259 (!t262)) = some r := by rw [if_pos rfl] at H; exact H
                      clear H
                      have H := H1
                      clear H1
                      have H' := Aside0.mk H
                      clear H
                      go_wp2
                      go_meet
                      case rel => exact ⟨_, (!t262), (by first | rfl | (simp; done) | (simp [*]; done)), H', ⟨by have := HK1.out; have := HK2.out; first | omega | exact Nat.le_refl _⟩, ⟨by (try simp only [hl15_1]); (with_reducible repeat (first | apply Kd.N_alloc | apply Kd.N_drewN | apply Kd.N_drew)); exact Kd.N_mono HO257.out (fun _ hk => by first | exact hk.2 | (and_intros <;> first | exact hk | exact hk.1 | exact hk.2 | exact hk.1.1 | exact hk.1.2 | exact hk.2.1 | exact hk.2.2 | exact hk.1.1.1 | exact hk.1.1.2 | exact hk.2.2.1 | exact hk.2.2.2))⟩, ⟨by (try simp only [hl15_1]); (with_reducible repeat (first | apply Kd.N_alloc | apply Kd.N_drewN | apply Kd.N_drew)); exact Kd.N_mono HO261.out (fun _ hk => by first | exact hk.2 | (and_intros <;> first | exact hk | exact hk.1 | exact hk.2 | exact hk.1.1 | exact hk.1.2 | exact hk.2.1 | exact hk.2.2 | exact hk.1.1.1 | exact hk.1.1.2 | exact hk.2.2.1 | exact hk.2.2.2))⟩, ⟨by repeat (first | (with_reducible first | exact HB.out | apply below_alloc | apply pw_below_drewN | apply below_drew1) | exact HB.out)⟩⟩
                    · replace c65 := Bool.eq_false_iff.mpr c65
                      subst c65
                      have H1 : (packthreadkeep_RecvTwice.j4 k2 t255 t259 true) = some r := by rw [if_neg (show ¬ (false = true) by decide)] at H; exact H
                      clear H
                      have H := H1
                      clear H1
                      have H' := Aside0.mk H
                      clear H
                      go_wp2
                      go_meet
                      case rel => exact ⟨_, (true), (by first | rfl | (simp; done) | (simp [*]; done)), H', ⟨by have := HK1.out; have := HK2.out; first | omega | exact Nat.le_refl _⟩, ⟨by (try simp only [hl15_1]); (with_reducible repeat (first | apply Kd.N_alloc | apply Kd.N_drewN | apply Kd.N_drew)); exact Kd.N_mono HO257.out (fun _ hk => by first | exact hk.2 | (and_intros <;> first | exact hk | exact hk.1 | exact hk.2 | exact hk.1.1 | exact hk.1.2 | exact hk.2.1 | exact hk.2.2 | exact hk.1.1.1 | exact hk.1.1.2 | exact hk.2.2.1 | exact hk.2.2.2))⟩, ⟨by (try simp only [hl15_1]); (with_reducible repeat (first | apply Kd.N_alloc | apply Kd.N_drewN | apply Kd.N_drew)); exact Kd.N_mono HO261.out (fun _ hk => by first | exact hk.2 | (and_intros <;> first | exact hk | exact hk.1 | exact hk.2 | exact hk.1.1 | exact hk.1.2 | exact hk.2.1 | exact hk.2.2 | exact hk.1.1.1 | exact hk.1.1.2 | exact hk.2.2.1 | exact hk.2.2.2))⟩, ⟨by repeat (first | (with_reducible first | exact HB.out | apply below_alloc | apply pw_below_drewN | apply below_drew1) | exact HB.out)⟩⟩
                  case rest =>
                    clear HC58
                    try clear c1
                    try clear p1
                    try clear q1
                    try clear hx1
                    try clear c2
                    try clear p2
                    try clear q2
                    try clear hx2
                    try clear c3
                    try clear c4
                    try clear p4
                    try clear q4
                    try clear hx4
                    try clear c5
                    try clear c6
                    try clear p6
                    try clear c14
                    try clear c15
                    try clear c15b0
                    try clear c16
                    try clear c16b0
                    try clear c17
                    try clear c17b0
                    try clear c18
                    try clear c18b0
                    try clear c18b1
                    try clear c19
                    try clear p19
                    try clear q19
                    try clear hx19
                    try clear hf19
                    try clear c20
                    try clear hx20
                    try clear hf20
                    try clear c22
                    try clear c22b0
                    try clear c23
                    try clear c23b0
                    try clear p23
                    try clear q23
                    try clear hx23
                    try clear c24
                    try clear c24b0
                    try clear p24
                    try clear q24
                    try clear hx24
                    try clear c25
                    try clear c28
                    try clear c28b0
                    try clear c28b1
                    try clear c30
                    try clear c31
                    try clear c31b0
                    try clear c32
                    try clear c32b0
                    try clear c33
                    try clear c43
                    try clear c43b0
                    try clear c44
                    try clear c44b0
                    try clear p45
                    try clear q45
                    try clear hx45
                    try clear hf45
                    try clear c50
                    try clear c54
                    try clear c55
                    try clear p64
                    try clear c65
                    try clear hcz35_0
                    try clear hcz35_1
                    try clear hcz35_2
                    try clear hcz35_3
                    try clear hcz35_4
                    try clear hcz42_0
                    try clear hcz42_1
                    try clear hcz42_2
                    try clear hcz42_3
                    try clear hcz42_4
                    try clear hcz46_0
                    try clear hcz46_1
                    try clear hcz46_2
                    try clear hcz46_3
                    try clear hcz46_4
                    try clear hcz51_0
                    try clear hcz51_1
                    try clear hcz51_2
                    try clear hcz51_3
                    try clear hcz51_4
                    try clear hfz35_0
                    try clear hfz35_1
                    try clear hfz35_2
                    try clear hfz35_3
                    try clear hfz35_4
                    try clear hfz42_0
                    try clear hfz42_1
                    try clear hfz42_2
                    try clear hfz42_3
                    try clear hfz42_4
                    try clear hfz46_0
                    try clear hfz46_1
                    try clear hfz46_2
                    try clear hfz46_3
                    try clear hfz46_4
                    try clear hfz51_0
                    try clear hfz51_1
                    try clear hfz51_2
                    try clear hfz51_3
                    try clear hfz51_4
                    try clear hx19_0
                    try clear hx19_1
                    try clear hx19_2
                    try clear hx19_3
                    try clear hx19_4
                    try clear hx20_4
                    try clear hx231_0
                    try clear hx231_1
                    try clear hx231_2
                    try clear hx231_3
                    try clear hx231_4
                    try clear hx233_0
                    try clear hx233_1
                    try clear hx233_2
                    try clear hx233_3
                    try clear hx233_4
                    try clear hx237_0
                    try clear hx237_1
                    try clear hx237_2
                    try clear hx237_3
                    try clear hx237_4
                    try clear hx239_0
                    try clear hx239_1
                    try clear hx239_2
                    try clear hx239_3
                    try clear hx239_4
                    try clear hx244_0
                    try clear hx45_0
                    try clear p1
                    try clear p19
                    try clear p2
                    try clear p23
                    try clear p231
                    try clear p233
                    try clear p237
                    try clear p239
                    try clear p244
                    try clear p45
                    try clear p6
                    try clear q1
                    try clear q19
                    try clear q2
                    try clear q23
                    try clear q231
                    try clear q233
                    try clear q237
                    try clear q239
                    try clear q244
                    try clear q45
                    obtain ⟨kq, x133_57, rfl, HA, HJ57, HO_22, HO_24, HB⟩ := hcut
                    cases kq with
                    | zero => exact absurd HA.out (by simp [packthreadkeep_RecvTwice.j4])
                    | succ kj57 =>
                      have H := HA.out
                      clear HA
                      simp only [packthreadkeep_RecvTwice.j4] at H
                      by_cases c66 : x133_57 = true
                      · subst c66
                        have H1 : (some false) = some r := by rw [if_pos rfl] at H; exact H
                        clear H
                        have H := H1
                        clear H1
                        obtain rfl := Option.some.inj H
                        go_wp2
                        go_ret
                        exact ⟨by first | rfl | (simp [errW_none, errW_some] <;> rfl) | (simp [*, errW_none, errW_some] <;> rfl), by repeat (first | (with_reducible first | exact HB.out | apply below_alloc | apply pw_below_drewN | apply below_drew1) | exact HB.out)⟩
                      · replace c66 := Bool.eq_false_iff.mpr c66
                        subst c66
                        have H1 : (if 0 ≤ (wrap64 ((t255.length : Int) - 1)) then (if (wrap64 ((t255.length : Int) - 1)) < (t255.length : Int) then (if 0 ≤ (wrap64 ((t259.length : Int) - 1)) then (if (wrap64 ((t259.length : Int) - 1)) < (t259.length : Int) then ((packthreadkeep_sameBytes.f kj57 ((rd_T34 t255 (wrap64 ((t255.length : Int) - 1))).f4) ((rd_T34 t259 (wrap64 ((t259.length : Int) - 1))).f4)).bind fun t267 => (if t267 = true then (if ((rd_T34 t255 (wrap64 ((t255.length : Int) - 1))).f1) = ((rd_T34 t259 (wrap64 ((t259.length : Int) - 1))).f1) then ((packthreadkeep_sameRanges.f kj57 ((rd_T34 t255 (wrap64 ((t255.length : Int) - 1))).f3) ((rd_T34 t259 (wrap64 ((t259.length : Int) - 1))).f3)).bind fun t268 => (some t268)) else (some false)) else (some false))) else (none)) else (none)) else (none)) else (none)) = some r := by rw [if_neg (show ¬ (false = true) by decide)] at H; exact H
                        clear H
                        have H := H1
                        clear H1
                        obtain ⟨ji67, hji67⟩ : ∃ j_ : Int, (wrap64 ((t255.length : Int) - 1)) = j_ := ⟨_, rfl⟩
                        replace H : (if 0 ≤ (ji67) then (if (ji67) < (t255.length : Int) then (if 0 ≤ (wrap64 ((t259.length : Int) - 1)) then (if (wrap64 ((t259.length : Int) - 1)) < (t259.length : Int) then ((packthreadkeep_sameBytes.f kj57 ((rd_T34 t255 (ji67)).f4) ((rd_T34 t259 (wrap64 ((t259.length : Int) - 1))).f4)).bind fun t267 => (if t267 = true then (if ((rd_T34 t255 (ji67)).f1) = ((rd_T34 t259 (wrap64 ((t259.length : Int) - 1))).f1) then ((packthreadkeep_sameRanges.f kj57 ((rd_T34 t255 (ji67)).f3) ((rd_T34 t259 (wrap64 ((t259.length : Int) - 1))).f3)).bind fun t268 => (some t268)) else (some false)) else (some false))) else (none)) else (none)) else (none)) else (none)) = some r := by first | (rw [hji67] at H; exact H) | (simp only [hji67] at H ⊢; exact H)
                        have hji67w : (IntKind.i64.wrap ((t255.length : Int) - 1)) = ji67 := (i64_w _).trans hji67
                        by_cases c68 : 0 ≤ (ji67)
                        · rw [if_pos c68] at H
                          have c68b0 : decide (0 ≤ (ji67)) = true := decide_eq_true c68
                          clear c68
                          by_cases c69 : (ji67) < (t255.length : Int)
                          · rw [if_pos c69] at H
                            have c69b0 : decide ((ji67) < (t255.length : Int)) = true := decide_eq_true c69
                            clear c69
                            obtain ⟨ji70, hji70⟩ : ∃ j_ : Int, (wrap64 ((t259.length : Int) - 1)) = j_ := ⟨_, rfl⟩
                            replace H : (if 0 ≤ (ji70) then (if (ji70) < (t259.length : Int) then ((packthreadkeep_sameBytes.f kj57 ((rd_T34 t255 (ji67)).f4) ((rd_T34 t259 (ji70)).f4)).bind fun t267 => (if t267 = true then (if ((rd_T34 t255 (ji67)).f1) = ((rd_T34 t259 (ji70)).f1) then ((packthreadkeep_sameRanges.f kj57 ((rd_T34 t255 (ji67)).f3) ((rd_T34 t259 (ji70)).f3)).bind fun t268 => (some t268)) else (some false)) else (some false))) else (none)) else (none)) = some r := by first | (rw [hji70] at H; exact H) | (simp only [hji70] at H ⊢; exact H)
                            have hji70w : (IntKind.i64.wrap ((t259.length : Int) - 1)) = ji70 := (i64_w _).trans hji70
                            by_cases c71 : 0 ≤ (ji70)
                            · rw [if_pos c71] at H
                              have c71b0 : decide (0 ≤ (ji70)) = true := decide_eq_true c71
                              clear c71
                              by_cases c72 : (ji70) < (t259.length : Int)
                              · rw [if_pos c72] at H
                                have c72b0 : decide ((ji70) < (t259.length : Int)) = true := decide_eq_true c72
                                clear c72
                                replace H := Option.bind_eq_some_iff.mp H
                                obtain ⟨t267, A730, H⟩ := H
                                replace H : (if t267 = true then (if ((rd_T34 t255 (ji67)).f1) = ((rd_T34 t259 (ji70)).f1) then ((packthreadkeep_sameRanges.f kj57 ((rd_T34 t255 (ji67)).f3) ((rd_T34 t259 (ji70)).f3)).bind fun t268 => (some t268)) else (some false)) else (some false)) = some r := H
                                have A73 := Aside0.mk A730
                                clear A730
                                by_cases c74 : t267 = true
                                · subst c74
                                  have H1 : (if ((rd_T34 t255 (ji67)).f1) = ((rd_T34 t259 (ji70)).f1) then ((packthreadkeep_sameRanges.f kj57 ((rd_T34 t255 (ji67)).f3) ((rd_T34 t259 (ji70)).f3)).bind fun t268 => (some t268)) else (some false)) = some r := by rw [if_pos rfl] at H; exact H
                                  clear H
                                  have H := H1
                                  clear H1
                                  by_cases c75 : ((rd_T34 t255 (ji67)).f1) = ((rd_T34 t259 (ji70)).f1)
                                  · rw [if_pos c75] at H
                                    have c75b0 : (((rd_T34 t255 (ji67)).f1) == ((rd_T34 t259 (ji70)).f1)) = true := beq_iff_eq.mpr c75
                                    have c75b1 : (((rd_T34 t255 (ji67)).f1) != ((rd_T34 t259 (ji70)).f1)) = false := bne_eq_false_iff_eq.mpr c75
                                    clear c75
                                    replace H := Option.bind_eq_some_iff.mp H
                                    obtain ⟨t268, A760, H⟩ := H
                                    replace H : (some t268) = some r := H
                                    have A76 := Aside0.mk A760
                                    clear A760
                                    obtain rfl := Option.some.inj H
                                    obtain ⟨Ao77, co77, eo77⟩ := Kd.N_slice HO_22.out
                                    subst eo77
                                    have p263 : 0 ≤ ((ji67) : Int) := of_decide_eq_true (by first | (with_reducible assumption) | assumption)
                                    have q263 : (ji67) < (t255.length : Int) := of_decide_eq_true (by first | (with_reducible assumption) | assumption)
                                    obtain ⟨ad263, A263_3, c263_3, A263_4, c263_4, e263, hx263_0, hx263_1, hx263_2, hx263_3, hx263_4, hx263_5, hl263_3, hi263_3, hl263_4, hi263_4⟩ := at_T34 (Kd.N_reads' HO_22.out).2.2 (ji67) p263 q263
                                    cases e263
                                    obtain ⟨ce263, hce263, hMe263, hcc263⟩ := Kd.N_get HO_22.out z34 (ji67) p263 (by first | exact q263 | exact of_decide_eq_true (by first | (with_reducible assumption) | assumption) | (have e_ := (Kd.N_reads' HO_22.out).1; omega))
                                    obtain ⟨ua263_3, uc263_3, ua263_4, uc263_4, rfl, ul263_3, ge263_3, ul263_4, ge263_4⟩ := k34_openF hMe263
                                    have hv263_3 := hcc263 3 _ rfl
                                    rw [add_field _ _ 3 (by omega)] at hv263_3
                                    replace hv263_3 := Option.some.inj (hv263_3.symm.trans hx263_3)
                                    injection hv263_3 with hva_ hvn_ hvc_
                                    rw [hva_] at ge263_3
                                    rw [hvc_] at ul263_3
                                    have HL263_3 := Aside0.mk (show Kd.V k56 56 _ w.heap.size _ _ ((rd_T34 t255 (ji67)).f3) from Kd.V_mk ul263_3 ge263_3)
                                    clear hva_ hvn_ hvc_ ge263_3 ul263_3
                                    have hv263_4 := hcc263 4 _ rfl
                                    rw [add_field _ _ 4 (by omega)] at hv263_4
                                    replace hv263_4 := Option.some.inj (hv263_4.symm.trans hx263_4)
                                    injection hv263_4 with hva_ hvn_ hvc_
                                    rw [hva_] at ge263_4
                                    rw [hvc_] at ul263_4
                                    have HL263_4 := Aside0.mk (show Kd.V (Kd.int .u8) 5 _ w.heap.size _ _ ((rd_T34 t255 (ji67)).f4) from Kd.V_mk ul263_4 ge263_4)
                                    clear hva_ hvn_ hvc_ ge263_4 ul263_4
                                    clear hcc263 hce263
                                    have HR263_3 := Aside0.mk hi263_3
                                    have HC263_3 := Aside0.mk hl263_3
                                    clear hi263_3 hl263_3
                                    have HR263_4 := Aside0.mk hi263_4
                                    have HC263_4 := Aside0.mk hl263_4
                                    clear hi263_4 hl263_4
                                    replace p263 := eq_true p263
                                    replace q263 := eq_true q263
                                    go_wp2_with (first | ((with_reducible refine gate_dst (N := 26) rfl ?_); refine box_event ?hg (N := 26) ?hd (cs := #[.int .i64 0, .int .i64 0, .int .i64 0, .slice none 0 0, .slice none 0 0, .bool false]) (t := 34) ?hr ?_; (case hd => rfl); (case hg => rfl); (case hr => first | (go_simp; done) | (go_simp; rfl)); intro gb264 hg w78 hbox hb; have n0_ := Aside0.mk (Kd.N_below (Kd.N_elderB (by (with_reducible repeat (first | apply Kd.N_alloc | apply Kd.N_drewN | apply Kd.N_drew)); exact HO_22.out) gb264 (Nat.le_of_eq hg.symm)) hb); have n1_ := Aside0.mk (Kd.N_below (Kd.N_elderB (by (with_reducible repeat (first | apply Kd.N_alloc | apply Kd.N_drewN | apply Kd.N_drew)); exact HO_24.out) gb264 (Nat.le_of_eq hg.symm)) hb); have n2_ := Aside0.mk (Kd.V_below (Kd.V_elderB (by (with_reducible repeat (first | apply Kd.V_alloc | apply Kd.V_drewN | apply Kd.V_drew)); exact HL263_3.out) gb264 (Nat.le_of_eq hg.symm)) hb); have n3_ := Aside0.mk (Kd.V_below (Kd.V_elderB (by (with_reducible repeat (first | apply Kd.V_alloc | apply Kd.V_drewN | apply Kd.V_drew)); exact HL263_4.out) gb264 (Nat.le_of_eq hg.symm)) hb); have n4_ := Aside0.mk (Kd.C_below (by repeat (first | (with_reducible exact HR263_3.out) | (with_reducible refine Kd.C_alloc ?_ _) | (with_reducible refine Kd.C_drewN ?_ _) | (with_reducible refine Kd.C_drew ?_) | exact HR263_3.out)) hb); have n5_ := Aside0.mk (Kd.C_below (by repeat (first | (with_reducible exact HR263_4.out) | (with_reducible refine Kd.C_alloc ?_ _) | (with_reducible refine Kd.C_drewN ?_ _) | (with_reducible refine Kd.C_drew ?_) | exact HR263_4.out)) hb); have n6_ := Aside0.mk (below_step (by repeat (first | (with_reducible first | exact HB.out | apply below_alloc | apply pw_below_drewN | apply below_drew1) | exact HB.out)) hb); have n7_ := Aside0.mk (hbox); have n8_ := Aside0.mk ((by rw [hg]; exact (below_size (by repeat (first | (with_reducible first | exact HB.out | apply below_alloc | apply pw_below_drewN | apply below_drew1) | exact HB.out))) : w.heap.size ≤ gb264)); have n9_ := Aside0.mk ((by rw [hg]; exact (below_size (by repeat (first | (with_reducible first | exact HB.out | apply below_alloc | apply pw_below_drewN | apply below_drew1) | exact HB.out))) : w.heap.size ≤ gb264)); clear HO_22; clear HO_24; clear HL263_3; clear HL263_4; clear HR263_3; clear HR263_4; clear HB; have HO_22 := n0_; have HO_24 := n1_; have HL263_3 := n2_; have HL263_4 := n3_; have HR263_3 := n4_; have HR263_4 := n5_; have HB := n6_; have BK264 := n7_; have GW264 := n8_; have GE264 := n9_; clear n0_ n1_ n2_ n3_ n4_ n5_ n6_ n7_ n8_ n9_; clear hb hbox hg; have hcz79_0 : w78.cell? ⟨gb264, 0, none⟩ = some (.int .i64 0) := (blk_cell BK264.out 0).trans rfl; have hcz79_1 : w78.cell? ⟨gb264, 1, none⟩ = some (.int .i64 0) := (blk_cell BK264.out 1).trans rfl; have hcz79_2 : w78.cell? ⟨gb264, 2, none⟩ = some (.int .i64 0) := (blk_cell BK264.out 2).trans rfl; have hcz79_3 : w78.cell? ⟨gb264, 3, none⟩ = some (.slice none 0 0) := (blk_cell BK264.out 3).trans rfl; have hcz79_4 : w78.cell? ⟨gb264, 4, none⟩ = some (.slice none 0 0) := (blk_cell BK264.out 4).trans rfl; have hcz79_5 : w78.cell? ⟨gb264, 5, none⟩ = some (.bool false) := (blk_cell BK264.out 5).trans rfl; have hfz79_0 := blk_frozen BK264.out 0; have hfz79_1 := blk_frozen BK264.out 1; have hfz79_2 := blk_frozen BK264.out 2; have hfz79_3 := blk_frozen BK264.out 3; have hfz79_4 := blk_frozen BK264.out 4; have hfz79_5 := blk_frozen BK264.out 5) | ((with_reducible refine gate_store (t := 34) (p := 26) rfl ?_); refine store_event (t := 34) (p := 26) (v := ?vo_w85) (w1 := ((((((w78.setCell ⟨gb264, 0, none⟩ (.int .i64 ((rd_T34 t255 (ji67)).f0))).setCell ⟨gb264, 1, none⟩ (.int .i64 ((rd_T34 t255 (ji67)).f1))).setCell ⟨gb264, 2, none⟩ (.int .i64 ((rd_T34 t255 (ji67)).f2))).setCell ⟨gb264, 3, none⟩ (.slice A263_3 ((rd_T34 t255 (ji67)).f3).length c263_3)).setCell ⟨gb264, 4, none⟩ (.slice A263_4 ((rd_T34 t255 (ji67)).f4).length c263_4)).setCell ⟨gb264, 5, none⟩ (.bool ((rd_T34 t255 (ji67)).f5)))) ?hg ?ho ?hn ?hr ?_; (case ho => rfl); (case hg => rfl); (case hn => rfl); (case hr => first | (go_simp; done) | (go_simp; rfl)); intro w85 hw; have n0_ : Aside0 (Kd.N k34 34 w85 w.heap.size (fun k_ => some k_ ≠ (v260 : Value).ownBlock ∧ k_ ≠ gb264) (.slice (some ad263) t255.length co77) t255) := ⟨(by rw [hw]; exact (by (with_reducible repeat (first | apply Kd.N_alloc | apply Kd.N_drewN | apply Kd.N_drew)); exact Kd.N_mono (Kd.N_far (p := ⟨gb264, 5, none⟩) (Kd.N_far (p := ⟨gb264, 4, none⟩) (Kd.N_far (p := ⟨gb264, 3, none⟩) (Kd.N_far (p := ⟨gb264, 2, none⟩) (Kd.N_far (p := ⟨gb264, 1, none⟩) (Kd.N_far (p := ⟨gb264, 0, none⟩) (Kd.N_mono HO_22.out (fun k_ hk => (⟨hk, hk.2⟩ : _ ∧ k_ ≠ gb264))) (fun _ hk => by first | exact hk.2 | (and_intros <;> first | exact hk | exact hk.1 | exact hk.2 | exact hk.1.1 | exact hk.1.2 | exact hk.2.1 | exact hk.2.2 | exact hk.1.1.1 | exact hk.1.1.2 | exact hk.2.2.1 | exact hk.2.2.2)) (.int .i64 ((rd_T34 t255 (ji67)).f0))) (fun _ hk => by first | exact hk.2 | (and_intros <;> first | exact hk | exact hk.1 | exact hk.2 | exact hk.1.1 | exact hk.1.2 | exact hk.2.1 | exact hk.2.2 | exact hk.1.1.1 | exact hk.1.1.2 | exact hk.2.2.1 | exact hk.2.2.2)) (.int .i64 ((rd_T34 t255 (ji67)).f1))) (fun _ hk => by first | exact hk.2 | (and_intros <;> first | exact hk | exact hk.1 | exact hk.2 | exact hk.1.1 | exact hk.1.2 | exact hk.2.1 | exact hk.2.2 | exact hk.1.1.1 | exact hk.1.1.2 | exact hk.2.2.1 | exact hk.2.2.2)) (.int .i64 ((rd_T34 t255 (ji67)).f2))) (fun _ hk => by first | exact hk.2 | (and_intros <;> first | exact hk | exact hk.1 | exact hk.2 | exact hk.1.1 | exact hk.1.2 | exact hk.2.1 | exact hk.2.2 | exact hk.1.1.1 | exact hk.1.1.2 | exact hk.2.2.1 | exact hk.2.2.2)) (.slice A263_3 ((rd_T34 t255 (ji67)).f3).length c263_3)) (fun _ hk => by first | exact hk.2 | (and_intros <;> first | exact hk | exact hk.1 | exact hk.2 | exact hk.1.1 | exact hk.1.2 | exact hk.2.1 | exact hk.2.2 | exact hk.1.1.1 | exact hk.1.1.2 | exact hk.2.2.1 | exact hk.2.2.2)) (.slice A263_4 ((rd_T34 t255 (ji67)).f4).length c263_4)) (fun _ hk => by first | exact hk.2 | (and_intros <;> first | exact hk | exact hk.1 | exact hk.2 | exact hk.1.1 | exact hk.1.2 | exact hk.2.1 | exact hk.2.2 | exact hk.1.1.1 | exact hk.1.1.2 | exact hk.2.2.1 | exact hk.2.2.2)) (.bool ((rd_T34 t255 (ji67)).f5))) (fun _ hk => by first | exact ⟨hk.1.1, hk.1.2⟩ | (and_intros <;> first | exact hk | exact hk.1 | exact hk.2 | exact hk.1.1 | exact hk.1.2 | exact hk.2.1 | exact hk.2.2 | exact hk.1.1.1 | exact hk.1.1.2 | exact hk.2.2.1 | exact hk.2.2.2))))⟩; have n1_ : Aside0 (Kd.N k34 34 w85 w.heap.size (fun k_ => some k_ ≠ (.slice (some ad263) t255.length co77 : Value).ownBlock ∧ k_ ≠ gb264) v260 t259) := ⟨(by rw [hw]; exact (by (with_reducible repeat (first | apply Kd.N_alloc | apply Kd.N_drewN | apply Kd.N_drew)); exact Kd.N_mono (Kd.N_far (p := ⟨gb264, 5, none⟩) (Kd.N_far (p := ⟨gb264, 4, none⟩) (Kd.N_far (p := ⟨gb264, 3, none⟩) (Kd.N_far (p := ⟨gb264, 2, none⟩) (Kd.N_far (p := ⟨gb264, 1, none⟩) (Kd.N_far (p := ⟨gb264, 0, none⟩) (Kd.N_mono HO_24.out (fun k_ hk => (⟨hk, hk.2⟩ : _ ∧ k_ ≠ gb264))) (fun _ hk => by first | exact hk.2 | (and_intros <;> first | exact hk | exact hk.1 | exact hk.2 | exact hk.1.1 | exact hk.1.2 | exact hk.2.1 | exact hk.2.2 | exact hk.1.1.1 | exact hk.1.1.2 | exact hk.2.2.1 | exact hk.2.2.2)) (.int .i64 ((rd_T34 t255 (ji67)).f0))) (fun _ hk => by first | exact hk.2 | (and_intros <;> first | exact hk | exact hk.1 | exact hk.2 | exact hk.1.1 | exact hk.1.2 | exact hk.2.1 | exact hk.2.2 | exact hk.1.1.1 | exact hk.1.1.2 | exact hk.2.2.1 | exact hk.2.2.2)) (.int .i64 ((rd_T34 t255 (ji67)).f1))) (fun _ hk => by first | exact hk.2 | (and_intros <;> first | exact hk | exact hk.1 | exact hk.2 | exact hk.1.1 | exact hk.1.2 | exact hk.2.1 | exact hk.2.2 | exact hk.1.1.1 | exact hk.1.1.2 | exact hk.2.2.1 | exact hk.2.2.2)) (.int .i64 ((rd_T34 t255 (ji67)).f2))) (fun _ hk => by first | exact hk.2 | (and_intros <;> first | exact hk | exact hk.1 | exact hk.2 | exact hk.1.1 | exact hk.1.2 | exact hk.2.1 | exact hk.2.2 | exact hk.1.1.1 | exact hk.1.1.2 | exact hk.2.2.1 | exact hk.2.2.2)) (.slice A263_3 ((rd_T34 t255 (ji67)).f3).length c263_3)) (fun _ hk => by first | exact hk.2 | (and_intros <;> first | exact hk | exact hk.1 | exact hk.2 | exact hk.1.1 | exact hk.1.2 | exact hk.2.1 | exact hk.2.2 | exact hk.1.1.1 | exact hk.1.1.2 | exact hk.2.2.1 | exact hk.2.2.2)) (.slice A263_4 ((rd_T34 t255 (ji67)).f4).length c263_4)) (fun _ hk => by first | exact hk.2 | (and_intros <;> first | exact hk | exact hk.1 | exact hk.2 | exact hk.1.1 | exact hk.1.2 | exact hk.2.1 | exact hk.2.2 | exact hk.1.1.1 | exact hk.1.1.2 | exact hk.2.2.1 | exact hk.2.2.2)) (.bool ((rd_T34 t255 (ji67)).f5))) (fun _ hk => by first | exact ⟨hk.1.1, hk.1.2⟩ | (and_intros <;> first | exact hk | exact hk.1 | exact hk.2 | exact hk.1.1 | exact hk.1.2 | exact hk.2.1 | exact hk.2.2 | exact hk.1.1.1 | exact hk.1.1.2 | exact hk.2.2.1 | exact hk.2.2.2))))⟩; have n2_ : Aside0 (Kd.V k56 56 w85 w.heap.size (fun k_ => some k_ ≠ (.slice (some ad263) t255.length co77 : Value).ownBlock ∧ some k_ ≠ (v260 : Value).ownBlock ∧ k_ ≠ gb264) (.slice A263_3 ((rd_T34 t255 (ji67)).f3).length c263_3) ((rd_T34 t255 (ji67)).f3)) := ⟨(by rw [hw]; exact (by (with_reducible repeat (first | apply Kd.V_alloc | apply Kd.V_drewN | apply Kd.V_drew)); exact Kd.V_mono (Kd.V_far (p := ⟨gb264, 5, none⟩) (Kd.V_far (p := ⟨gb264, 4, none⟩) (Kd.V_far (p := ⟨gb264, 3, none⟩) (Kd.V_far (p := ⟨gb264, 2, none⟩) (Kd.V_far (p := ⟨gb264, 1, none⟩) (Kd.V_far (p := ⟨gb264, 0, none⟩) (Kd.V_mono HL263_3.out (fun k_ hk => (⟨hk, hk.2⟩ : _ ∧ k_ ≠ gb264))) (fun _ hk => by first | exact hk.2 | (and_intros <;> first | exact hk | exact hk.1 | exact hk.2 | exact hk.1.1 | exact hk.1.2 | exact hk.2.1 | exact hk.2.2 | exact hk.1.1.1 | exact hk.1.1.2 | exact hk.2.2.1 | exact hk.2.2.2)) (.int .i64 ((rd_T34 t255 (ji67)).f0))) (fun _ hk => by first | exact hk.2 | (and_intros <;> first | exact hk | exact hk.1 | exact hk.2 | exact hk.1.1 | exact hk.1.2 | exact hk.2.1 | exact hk.2.2 | exact hk.1.1.1 | exact hk.1.1.2 | exact hk.2.2.1 | exact hk.2.2.2)) (.int .i64 ((rd_T34 t255 (ji67)).f1))) (fun _ hk => by first | exact hk.2 | (and_intros <;> first | exact hk | exact hk.1 | exact hk.2 | exact hk.1.1 | exact hk.1.2 | exact hk.2.1 | exact hk.2.2 | exact hk.1.1.1 | exact hk.1.1.2 | exact hk.2.2.1 | exact hk.2.2.2)) (.int .i64 ((rd_T34 t255 (ji67)).f2))) (fun _ hk => by first | exact hk.2 | (and_intros <;> first | exact hk | exact hk.1 | exact hk.2 | exact hk.1.1 | exact hk.1.2 | exact hk.2.1 | exact hk.2.2 | exact hk.1.1.1 | exact hk.1.1.2 | exact hk.2.2.1 | exact hk.2.2.2)) (.slice A263_3 ((rd_T34 t255 (ji67)).f3).length c263_3)) (fun _ hk => by first | exact hk.2 | (and_intros <;> first | exact hk | exact hk.1 | exact hk.2 | exact hk.1.1 | exact hk.1.2 | exact hk.2.1 | exact hk.2.2 | exact hk.1.1.1 | exact hk.1.1.2 | exact hk.2.2.1 | exact hk.2.2.2)) (.slice A263_4 ((rd_T34 t255 (ji67)).f4).length c263_4)) (fun _ hk => by first | exact hk.2 | (and_intros <;> first | exact hk | exact hk.1 | exact hk.2 | exact hk.1.1 | exact hk.1.2 | exact hk.2.1 | exact hk.2.2 | exact hk.1.1.1 | exact hk.1.1.2 | exact hk.2.2.1 | exact hk.2.2.2)) (.bool ((rd_T34 t255 (ji67)).f5))) (fun _ hk => by first | exact ⟨hk.1.1.2, ⟨hk.1.1.1, hk.1.2⟩⟩ | ((try simp only [and_assoc] at hk); and_intros <;> first | exact hk.1 | exact hk.2.1 | exact hk.2.2.1 | exact hk.2.2.2.1 | exact hk.2.2.2.2.1 | exact hk.2.2.2.2 | exact hk.2.2.2 | exact hk.2.2 | exact hk.2))))⟩; have n3_ : Aside0 (Kd.V (Kd.int .u8) 5 w85 w.heap.size (fun k_ => some k_ ≠ (.slice (some ad263) t255.length co77 : Value).ownBlock ∧ some k_ ≠ (v260 : Value).ownBlock ∧ k_ ≠ gb264) (.slice A263_4 ((rd_T34 t255 (ji67)).f4).length c263_4) ((rd_T34 t255 (ji67)).f4)) := ⟨(by rw [hw]; exact (by (with_reducible repeat (first | apply Kd.V_alloc | apply Kd.V_drewN | apply Kd.V_drew)); exact Kd.V_mono (Kd.V_far (p := ⟨gb264, 5, none⟩) (Kd.V_far (p := ⟨gb264, 4, none⟩) (Kd.V_far (p := ⟨gb264, 3, none⟩) (Kd.V_far (p := ⟨gb264, 2, none⟩) (Kd.V_far (p := ⟨gb264, 1, none⟩) (Kd.V_far (p := ⟨gb264, 0, none⟩) (Kd.V_mono HL263_4.out (fun k_ hk => (⟨hk, hk.2⟩ : _ ∧ k_ ≠ gb264))) (fun _ hk => by first | exact hk.2 | (and_intros <;> first | exact hk | exact hk.1 | exact hk.2 | exact hk.1.1 | exact hk.1.2 | exact hk.2.1 | exact hk.2.2 | exact hk.1.1.1 | exact hk.1.1.2 | exact hk.2.2.1 | exact hk.2.2.2)) (.int .i64 ((rd_T34 t255 (ji67)).f0))) (fun _ hk => by first | exact hk.2 | (and_intros <;> first | exact hk | exact hk.1 | exact hk.2 | exact hk.1.1 | exact hk.1.2 | exact hk.2.1 | exact hk.2.2 | exact hk.1.1.1 | exact hk.1.1.2 | exact hk.2.2.1 | exact hk.2.2.2)) (.int .i64 ((rd_T34 t255 (ji67)).f1))) (fun _ hk => by first | exact hk.2 | (and_intros <;> first | exact hk | exact hk.1 | exact hk.2 | exact hk.1.1 | exact hk.1.2 | exact hk.2.1 | exact hk.2.2 | exact hk.1.1.1 | exact hk.1.1.2 | exact hk.2.2.1 | exact hk.2.2.2)) (.int .i64 ((rd_T34 t255 (ji67)).f2))) (fun _ hk => by first | exact hk.2 | (and_intros <;> first | exact hk | exact hk.1 | exact hk.2 | exact hk.1.1 | exact hk.1.2 | exact hk.2.1 | exact hk.2.2 | exact hk.1.1.1 | exact hk.1.1.2 | exact hk.2.2.1 | exact hk.2.2.2)) (.slice A263_3 ((rd_T34 t255 (ji67)).f3).length c263_3)) (fun _ hk => by first | exact hk.2 | (and_intros <;> first | exact hk | exact hk.1 | exact hk.2 | exact hk.1.1 | exact hk.1.2 | exact hk.2.1 | exact hk.2.2 | exact hk.1.1.1 | exact hk.1.1.2 | exact hk.2.2.1 | exact hk.2.2.2)) (.slice A263_4 ((rd_T34 t255 (ji67)).f4).length c263_4)) (fun _ hk => by first | exact hk.2 | (and_intros <;> first | exact hk | exact hk.1 | exact hk.2 | exact hk.1.1 | exact hk.1.2 | exact hk.2.1 | exact hk.2.2 | exact hk.1.1.1 | exact hk.1.1.2 | exact hk.2.2.1 | exact hk.2.2.2)) (.bool ((rd_T34 t255 (ji67)).f5))) (fun _ hk => by first | exact ⟨hk.1.1.2, ⟨hk.1.1.1, hk.1.2⟩⟩ | ((try simp only [and_assoc] at hk); and_intros <;> first | exact hk.1 | exact hk.2.1 | exact hk.2.2.1 | exact hk.2.2.2.1 | exact hk.2.2.2.2.1 | exact hk.2.2.2.2 | exact hk.2.2.2 | exact hk.2.2 | exact hk.2))))⟩; have n4_ : Aside0 (w85.heap[gb264]? = some (.cells #[.int .i64 ((rd_T34 t255 (ji67)).f0), .int .i64 ((rd_T34 t255 (ji67)).f1), .int .i64 ((rd_T34 t255 (ji67)).f2), .slice A263_3 ((rd_T34 t255 (ji67)).f3).length c263_3, .slice A263_4 ((rd_T34 t255 (ji67)).f4).length c263_4, .bool ((rd_T34 t255 (ji67)).f5)] 34 (0, 0))) := ⟨(by rw [hw]; exact (by (with_reducible repeat (first | refine blk_drewN ?_ _ | refine blk_drew ?_ | refine blk_alloc ?_ _)); refine blk_put (cs := #[.int .i64 ((rd_T34 t255 (ji67)).f0), .int .i64 ((rd_T34 t255 (ji67)).f1), .int .i64 ((rd_T34 t255 (ji67)).f2), .slice A263_3 ((rd_T34 t255 (ji67)).f3).length c263_3, .slice A263_4 ((rd_T34 t255 (ji67)).f4).length c263_4, .bool false]) ?_ 5 _ rfl; (with_reducible repeat (first | refine blk_drewN ?_ _ | refine blk_drew ?_ | refine blk_alloc ?_ _)); refine blk_put (cs := #[.int .i64 ((rd_T34 t255 (ji67)).f0), .int .i64 ((rd_T34 t255 (ji67)).f1), .int .i64 ((rd_T34 t255 (ji67)).f2), .slice A263_3 ((rd_T34 t255 (ji67)).f3).length c263_3, .slice none 0 0, .bool false]) ?_ 4 _ rfl; (with_reducible repeat (first | refine blk_drewN ?_ _ | refine blk_drew ?_ | refine blk_alloc ?_ _)); refine blk_put (cs := #[.int .i64 ((rd_T34 t255 (ji67)).f0), .int .i64 ((rd_T34 t255 (ji67)).f1), .int .i64 ((rd_T34 t255 (ji67)).f2), .slice none 0 0, .slice none 0 0, .bool false]) ?_ 3 _ rfl; (with_reducible repeat (first | refine blk_drewN ?_ _ | refine blk_drew ?_ | refine blk_alloc ?_ _)); refine blk_put (cs := #[.int .i64 ((rd_T34 t255 (ji67)).f0), .int .i64 ((rd_T34 t255 (ji67)).f1), .int .i64 0, .slice none 0 0, .slice none 0 0, .bool false]) ?_ 2 _ rfl; (with_reducible repeat (first | refine blk_drewN ?_ _ | refine blk_drew ?_ | refine blk_alloc ?_ _)); refine blk_put (cs := #[.int .i64 ((rd_T34 t255 (ji67)).f0), .int .i64 0, .int .i64 0, .slice none 0 0, .slice none 0 0, .bool false]) ?_ 1 _ rfl; (with_reducible repeat (first | refine blk_drewN ?_ _ | refine blk_drew ?_ | refine blk_alloc ?_ _)); refine blk_put (cs := #[.int .i64 0, .int .i64 0, .int .i64 0, .slice none 0 0, .slice none 0 0, .bool false]) ?_ 0 _ rfl; (with_reducible repeat (first | refine blk_drewN ?_ _ | refine blk_drew ?_ | refine blk_alloc ?_ _)); exact BK264.out))⟩; have n5_ : Aside0 (Below w.heap.size w w85) := ⟨(by rw [hw]; exact (by repeat (first | (with_reducible first | exact HB.out | apply below_alloc | apply pw_below_drewN | apply below_drew1 | refine below_set ?_ GE264.out) | exact HB.out)))⟩; clear hw; clear HO_22; clear HO_24; clear HL263_3; clear HL263_4; clear BK264; clear HB; have HO_22 := n0_; have HO_24 := n1_; have HL263_3 := n2_; have HL263_4 := n3_; have BK264 := n4_; have HB := n5_; clear n0_ n1_ n2_ n3_ n4_ n5_; obtain ⟨Ao86, co86, eo86⟩ := Kd.N_slice HO_24.out; subst eo86; have p265 : 0 ≤ ((ji70) : Int) := of_decide_eq_true (by first | (with_reducible assumption) | assumption); have q265 : (ji70) < (t259.length : Int) := of_decide_eq_true (by first | (with_reducible assumption) | assumption); obtain ⟨ad265, A265_3, c265_3, A265_4, c265_4, e265, hx265_0, hx265_1, hx265_2, hx265_3, hx265_4, hx265_5, hl265_3, hi265_3, hl265_4, hi265_4⟩ := at_T34 (Kd.N_reads' HO_24.out).2.2 (ji70) p265 q265; cases e265; obtain ⟨ce265, hce265, hMe265, hcc265⟩ := Kd.N_get HO_24.out z34 (ji70) p265 (by first | exact q265 | exact of_decide_eq_true (by first | (with_reducible assumption) | assumption) | (have e_ := (Kd.N_reads' HO_24.out).1; omega)); obtain ⟨ua265_3, uc265_3, ua265_4, uc265_4, rfl, ul265_3, ge265_3, ul265_4, ge265_4⟩ := k34_openF hMe265; have hv265_3 := hcc265 3 _ rfl; rw [add_field _ _ 3 (by omega)] at hv265_3; replace hv265_3 := Option.some.inj (hv265_3.symm.trans hx265_3); injection hv265_3 with hva_ hvn_ hvc_; rw [hva_] at ge265_3; rw [hvc_] at ul265_3; have HL265_3 := Aside0.mk (show Kd.V k56 56 _ w.heap.size _ _ ((rd_T34 t259 (ji70)).f3) from Kd.V_mk ul265_3 ge265_3); clear hva_ hvn_ hvc_ ge265_3 ul265_3; have hv265_4 := hcc265 4 _ rfl; rw [add_field _ _ 4 (by omega)] at hv265_4; replace hv265_4 := Option.some.inj (hv265_4.symm.trans hx265_4); injection hv265_4 with hva_ hvn_ hvc_; rw [hva_] at ge265_4; rw [hvc_] at ul265_4; have HL265_4 := Aside0.mk (show Kd.V (Kd.int .u8) 5 _ w.heap.size _ _ ((rd_T34 t259 (ji70)).f4) from Kd.V_mk ul265_4 ge265_4); clear hva_ hvn_ hvc_ ge265_4 ul265_4; clear hcc265 hce265; have HR265_3 := Aside0.mk hi265_3; have HC265_3 := Aside0.mk hl265_3; clear hi265_3 hl265_3; have HR265_4 := Aside0.mk hi265_4; have HC265_4 := Aside0.mk hl265_4; clear hi265_4 hl265_4; replace p265 := eq_true p265; replace q265 := eq_true q265) | ((with_reducible refine gate_dst (N := 27) rfl ?_); refine box_event ?hg (N := 27) ?hd (cs := #[.int .i64 0, .int .i64 0, .int .i64 0, .slice none 0 0, .slice none 0 0, .bool false]) (t := 34) ?hr ?_; (case hd => rfl); (case hg => rfl); (case hr => first | (go_simp; done) | (go_simp; rfl)); intro gb266 hg w87 hbox hb; have n0_ := Aside0.mk (Kd.N_below (Kd.N_elderB (by (with_reducible repeat (first | apply Kd.N_alloc | apply Kd.N_drewN | apply Kd.N_drew)); exact HO_22.out) gb266 (Nat.le_of_eq hg.symm)) hb); have n1_ := Aside0.mk (Kd.N_below (Kd.N_elderB (by (with_reducible repeat (first | apply Kd.N_alloc | apply Kd.N_drewN | apply Kd.N_drew)); exact HO_24.out) gb266 (Nat.le_of_eq hg.symm)) hb); have n2_ := Aside0.mk (Kd.V_below (Kd.V_elderB (by (with_reducible repeat (first | apply Kd.V_alloc | apply Kd.V_drewN | apply Kd.V_drew)); exact HL263_3.out) gb266 (Nat.le_of_eq hg.symm)) hb); have n3_ := Aside0.mk (Kd.V_below (Kd.V_elderB (by (with_reducible repeat (first | apply Kd.V_alloc | apply Kd.V_drewN | apply Kd.V_drew)); exact HL263_4.out) gb266 (Nat.le_of_eq hg.symm)) hb); have n4_ := Aside0.mk (Kd.V_below (Kd.V_elderB (by (with_reducible repeat (first | apply Kd.V_alloc | apply Kd.V_drewN | apply Kd.V_drew)); exact HL265_3.out) gb266 (Nat.le_of_eq hg.symm)) hb); have n5_ := Aside0.mk (Kd.V_below (Kd.V_elderB (by (with_reducible repeat (first | apply Kd.V_alloc | apply Kd.V_drewN | apply Kd.V_drew)); exact HL265_4.out) gb266 (Nat.le_of_eq hg.symm)) hb); have n6_ := Aside0.mk (Kd.C_below (by repeat (first | (with_reducible exact (Kd.V_reads' HL263_3.out).2.2) | (with_reducible refine Kd.C_alloc ?_ _) | (with_reducible refine Kd.C_drewN ?_ _) | (with_reducible refine Kd.C_drew ?_) | exact (Kd.V_reads' HL263_3.out).2.2)) hb); have n7_ := Aside0.mk (Kd.C_below (by repeat (first | (with_reducible exact (Kd.V_reads' HL263_4.out).2.2) | (with_reducible refine Kd.C_alloc ?_ _) | (with_reducible refine Kd.C_drewN ?_ _) | (with_reducible refine Kd.C_drew ?_) | exact (Kd.V_reads' HL263_4.out).2.2)) hb); have n8_ := Aside0.mk (blk_below (g := gb264) (o := .cells #[.int .i64 ((rd_T34 t255 (ji67)).f0), .int .i64 ((rd_T34 t255 (ji67)).f1), .int .i64 ((rd_T34 t255 (ji67)).f2), .slice A263_3 ((rd_T34 t255 (ji67)).f3).length c263_3, .slice A263_4 ((rd_T34 t255 (ji67)).f4).length c263_4, .bool ((rd_T34 t255 (ji67)).f5)] 34 (0, 0)) (by (with_reducible repeat (first | refine blk_drewN ?_ _ | refine blk_drew ?_ | refine blk_alloc ?_ _)); exact BK264.out) hb); have n9_ := Aside0.mk (Kd.C_below (by repeat (first | (with_reducible exact (Kd.V_reads' HL265_3.out).2.2) | (with_reducible refine Kd.C_alloc ?_ _) | (with_reducible refine Kd.C_drewN ?_ _) | (with_reducible refine Kd.C_drew ?_) | exact (Kd.V_reads' HL265_3.out).2.2)) hb); have n10_ := Aside0.mk (Kd.C_below (by repeat (first | (with_reducible exact (Kd.V_reads' HL265_4.out).2.2) | (with_reducible refine Kd.C_alloc ?_ _) | (with_reducible refine Kd.C_drewN ?_ _) | (with_reducible refine Kd.C_drew ?_) | exact (Kd.V_reads' HL265_4.out).2.2)) hb); have n11_ := Aside0.mk (below_step (by repeat (first | (with_reducible first | exact HB.out | apply below_alloc | apply pw_below_drewN | apply below_drew1 | refine below_set ?_ GE264.out) | exact HB.out)) hb); have n12_ := Aside0.mk (hbox); have n13_ := Aside0.mk ((by rw [hg]; exact (below_size (by repeat (first | (with_reducible first | exact HB.out | apply below_alloc | apply pw_below_drewN | apply below_drew1 | refine below_set ?_ GE264.out) | exact HB.out))) : w.heap.size ≤ gb266)); have n14_ := Aside0.mk ((by rw [hg]; exact (below_size (by repeat (first | (with_reducible first | exact HB.out | apply below_alloc | apply pw_below_drewN | apply below_drew1 | refine below_set ?_ GE264.out) | exact HB.out))) : w.heap.size ≤ gb266)); have n15_ := Aside0.mk ((by rw [hg]; exact Nat.ne_of_lt (blk_lt (g := gb264) (o := .cells #[.int .i64 ((rd_T34 t255 (ji67)).f0), .int .i64 ((rd_T34 t255 (ji67)).f1), .int .i64 ((rd_T34 t255 (ji67)).f2), .slice A263_3 ((rd_T34 t255 (ji67)).f3).length c263_3, .slice A263_4 ((rd_T34 t255 (ji67)).f4).length c263_4, .bool ((rd_T34 t255 (ji67)).f5)] 34 (0, 0)) (by (with_reducible repeat (first | refine blk_drewN ?_ _ | refine blk_drew ?_ | refine blk_alloc ?_ _)); exact BK264.out)) : gb264 ≠ gb266)); have n16_ := Aside0.mk ((by rw [hg]; exact Nat.ne_of_gt (blk_lt (g := gb264) (o := .cells #[.int .i64 ((rd_T34 t255 (ji67)).f0), .int .i64 ((rd_T34 t255 (ji67)).f1), .int .i64 ((rd_T34 t255 (ji67)).f2), .slice A263_3 ((rd_T34 t255 (ji67)).f3).length c263_3, .slice A263_4 ((rd_T34 t255 (ji67)).f4).length c263_4, .bool ((rd_T34 t255 (ji67)).f5)] 34 (0, 0)) (by (with_reducible repeat (first | refine blk_drewN ?_ _ | refine blk_drew ?_ | refine blk_alloc ?_ _)); exact BK264.out)) : gb266 ≠ gb264)); clear HO_22; clear HO_24; clear HL263_3; clear HL263_4; clear HL265_3; clear HL265_4; clear HR263_3; clear HR263_4; clear BK264; clear HR265_3; clear HR265_4; clear HB; have HO_22 := n0_; have HO_24 := n1_; have HL263_3 := n2_; have HL263_4 := n3_; have HL265_3 := n4_; have HL265_4 := n5_; have HR263_3 := n6_; have HR263_4 := n7_; have BK264 := n8_; have HR265_3 := n9_; have HR265_4 := n10_; have HB := n11_; have BK266 := n12_; have GW266 := n13_; have GE266 := n14_; have NB264_266 := n15_; have NB266_264 := n16_; clear n0_ n1_ n2_ n3_ n4_ n5_ n6_ n7_ n8_ n9_ n10_ n11_ n12_ n13_ n14_ n15_ n16_; clear hb hbox hg; have hnb88 := NB266_264.out; have hnc88 := NB264_266.out; have hcz89_0 : w87.cell? ⟨gb266, 0, none⟩ = some (.int .i64 0) := (blk_cell BK266.out 0).trans rfl; have hcz89_1 : w87.cell? ⟨gb266, 1, none⟩ = some (.int .i64 0) := (blk_cell BK266.out 1).trans rfl; have hcz89_2 : w87.cell? ⟨gb266, 2, none⟩ = some (.int .i64 0) := (blk_cell BK266.out 2).trans rfl; have hcz89_3 : w87.cell? ⟨gb266, 3, none⟩ = some (.slice none 0 0) := (blk_cell BK266.out 3).trans rfl; have hcz89_4 : w87.cell? ⟨gb266, 4, none⟩ = some (.slice none 0 0) := (blk_cell BK266.out 4).trans rfl; have hcz89_5 : w87.cell? ⟨gb266, 5, none⟩ = some (.bool false) := (blk_cell BK266.out 5).trans rfl; have hfz89_0 := blk_frozen BK266.out 0; have hfz89_1 := blk_frozen BK266.out 1; have hfz89_2 := blk_frozen BK266.out 2; have hfz89_3 := blk_frozen BK266.out 3; have hfz89_4 := blk_frozen BK266.out 4; have hfz89_5 := blk_frozen BK266.out 5; have hcz95_0 : w87.cell? ⟨gb264, 0, none⟩ = some (.int .i64 ((rd_T34 t255 (ji67)).f0)) := (blk_cell BK264.out 0).trans rfl; have hcz95_1 : w87.cell? ⟨gb264, 1, none⟩ = some (.int .i64 ((rd_T34 t255 (ji67)).f1)) := (blk_cell BK264.out 1).trans rfl; have hcz95_2 : w87.cell? ⟨gb264, 2, none⟩ = some (.int .i64 ((rd_T34 t255 (ji67)).f2)) := (blk_cell BK264.out 2).trans rfl; have hcz95_3 : w87.cell? ⟨gb264, 3, none⟩ = some (.slice A263_3 ((rd_T34 t255 (ji67)).f3).length c263_3) := (blk_cell BK264.out 3).trans rfl; have hcz95_4 : w87.cell? ⟨gb264, 4, none⟩ = some (.slice A263_4 ((rd_T34 t255 (ji67)).f4).length c263_4) := (blk_cell BK264.out 4).trans rfl; have hcz95_5 : w87.cell? ⟨gb264, 5, none⟩ = some (.bool ((rd_T34 t255 (ji67)).f5)) := (blk_cell BK264.out 5).trans rfl; have hfz95_0 := blk_frozen BK264.out 0; have hfz95_1 := blk_frozen BK264.out 1; have hfz95_2 := blk_frozen BK264.out 2; have hfz95_3 := blk_frozen BK264.out 3; have hfz95_4 := blk_frozen BK264.out 4; have hfz95_5 := blk_frozen BK264.out 5) | ((with_reducible refine gate_callee (f := 18) rfl ?_); refine goesL_ (some 150) rfl rfl Try.func18 (by kernel_rfl) rfl #[.slice A263_4 ((rd_T34 t255 (ji67)).f4).length c263_4, .slice A265_4 ((rd_T34 t259 (ji70)).f4).length c265_4] rfl (by (try simp only [List.map_toArray, List.map_cons, List.map_nil]); first | done | (simp only [hji67, hji70]; rfl) | rfl | (simp only [List.length_drop, List.length_take]; rfl)) ?_; (with_reducible refine (packthreadkeep_sameBytes.calls kj57 _ _ ((rd_T34 t255 (ji67)).f4) _ _ ((rd_T34 t259 (ji70)).f4) true _ ?side1 ?side2 ?side3 ?side4 A73.out).mono ?_); (case side1 => repeat (first | exact ((Kd.V_reads' (by (with_reducible repeat (first | apply Kd.V_alloc | apply Kd.V_drewN | apply Kd.V_drew)); exact (Kd.V_mono (Kd.V_far (p := ⟨gb266, 5, none⟩) (Kd.V_far (p := ⟨gb266, 4, none⟩) (Kd.V_far (p := ⟨gb266, 3, none⟩) (Kd.V_far (p := ⟨gb266, 2, none⟩) (Kd.V_far (p := ⟨gb266, 1, none⟩) (Kd.V_far (p := ⟨gb266, 0, none⟩) (Kd.V_mono HL263_4.out (fun k_ hk => (⟨hk, hk.2⟩ : _ ∧ k_ ≠ gb266))) (fun _ hk => by first | exact hk.2 | (and_intros <;> first | exact hk | exact hk.1 | exact hk.2 | exact hk.1.1 | exact hk.1.2 | exact hk.2.1 | exact hk.2.2 | exact hk.1.1.1 | exact hk.1.1.2 | exact hk.2.2.1 | exact hk.2.2.2)) (.int .i64 ((rd_T34 t259 (ji70)).f0))) (fun _ hk => by first | exact hk.2 | (and_intros <;> first | exact hk | exact hk.1 | exact hk.2 | exact hk.1.1 | exact hk.1.2 | exact hk.2.1 | exact hk.2.2 | exact hk.1.1.1 | exact hk.1.1.2 | exact hk.2.2.1 | exact hk.2.2.2)) (.int .i64 ((rd_T34 t259 (ji70)).f1))) (fun _ hk => by first | exact hk.2 | (and_intros <;> first | exact hk | exact hk.1 | exact hk.2 | exact hk.1.1 | exact hk.1.2 | exact hk.2.1 | exact hk.2.2 | exact hk.1.1.1 | exact hk.1.1.2 | exact hk.2.2.1 | exact hk.2.2.2)) (.int .i64 ((rd_T34 t259 (ji70)).f2))) (fun _ hk => by first | exact hk.2 | (and_intros <;> first | exact hk | exact hk.1 | exact hk.2 | exact hk.1.1 | exact hk.1.2 | exact hk.2.1 | exact hk.2.2 | exact hk.1.1.1 | exact hk.1.1.2 | exact hk.2.2.1 | exact hk.2.2.2)) (.slice A265_3 ((rd_T34 t259 (ji70)).f3).length c265_3)) (fun _ hk => by first | exact hk.2 | (and_intros <;> first | exact hk | exact hk.1 | exact hk.2 | exact hk.1.1 | exact hk.1.2 | exact hk.2.1 | exact hk.2.2 | exact hk.1.1.1 | exact hk.1.1.2 | exact hk.2.2.1 | exact hk.2.2.2)) (.slice A265_4 ((rd_T34 t259 (ji70)).f4).length c265_4)) (fun _ hk => by first | exact hk.2 | (and_intros <;> first | exact hk | exact hk.1 | exact hk.2 | exact hk.1.1 | exact hk.1.2 | exact hk.2.1 | exact hk.2.2 | exact hk.1.1.1 | exact hk.1.1.2 | exact hk.2.2.1 | exact hk.2.2.2)) (.bool ((rd_T34 t259 (ji70)).f5))) (fun _ h_ => h_.1)))).2.2) | (with_reducible refine Kd.C_alloc ?_ _) | (with_reducible refine Kd.C_drewN ?_ _) | (with_reducible refine Kd.C_drew ?_))); (case side2 => exact HC263_4.out); (case side3 => repeat (first | exact ((Kd.V_reads' (by (with_reducible repeat (first | apply Kd.V_alloc | apply Kd.V_drewN | apply Kd.V_drew)); exact (Kd.V_mono (Kd.V_far (p := ⟨gb266, 5, none⟩) (Kd.V_far (p := ⟨gb266, 4, none⟩) (Kd.V_far (p := ⟨gb266, 3, none⟩) (Kd.V_far (p := ⟨gb266, 2, none⟩) (Kd.V_far (p := ⟨gb266, 1, none⟩) (Kd.V_far (p := ⟨gb266, 0, none⟩) (Kd.V_mono HL265_4.out (fun k_ hk => (⟨hk, hk.2⟩ : _ ∧ k_ ≠ gb266))) (fun _ hk => by first | exact hk.2 | (and_intros <;> first | exact hk | exact hk.1 | exact hk.2 | exact hk.1.1 | exact hk.1.2 | exact hk.2.1 | exact hk.2.2 | exact hk.1.1.1 | exact hk.1.1.2 | exact hk.2.2.1 | exact hk.2.2.2)) (.int .i64 ((rd_T34 t259 (ji70)).f0))) (fun _ hk => by first | exact hk.2 | (and_intros <;> first | exact hk | exact hk.1 | exact hk.2 | exact hk.1.1 | exact hk.1.2 | exact hk.2.1 | exact hk.2.2 | exact hk.1.1.1 | exact hk.1.1.2 | exact hk.2.2.1 | exact hk.2.2.2)) (.int .i64 ((rd_T34 t259 (ji70)).f1))) (fun _ hk => by first | exact hk.2 | (and_intros <;> first | exact hk | exact hk.1 | exact hk.2 | exact hk.1.1 | exact hk.1.2 | exact hk.2.1 | exact hk.2.2 | exact hk.1.1.1 | exact hk.1.1.2 | exact hk.2.2.1 | exact hk.2.2.2)) (.int .i64 ((rd_T34 t259 (ji70)).f2))) (fun _ hk => by first | exact hk.2 | (and_intros <;> first | exact hk | exact hk.1 | exact hk.2 | exact hk.1.1 | exact hk.1.2 | exact hk.2.1 | exact hk.2.2 | exact hk.1.1.1 | exact hk.1.1.2 | exact hk.2.2.1 | exact hk.2.2.2)) (.slice A265_3 ((rd_T34 t259 (ji70)).f3).length c265_3)) (fun _ hk => by first | exact hk.2 | (and_intros <;> first | exact hk | exact hk.1 | exact hk.2 | exact hk.1.1 | exact hk.1.2 | exact hk.2.1 | exact hk.2.2 | exact hk.1.1.1 | exact hk.1.1.2 | exact hk.2.2.1 | exact hk.2.2.2)) (.slice A265_4 ((rd_T34 t259 (ji70)).f4).length c265_4)) (fun _ hk => by first | exact hk.2 | (and_intros <;> first | exact hk | exact hk.1 | exact hk.2 | exact hk.1.1 | exact hk.1.2 | exact hk.2.1 | exact hk.2.2 | exact hk.1.1.1 | exact hk.1.1.2 | exact hk.2.2.1 | exact hk.2.2.2)) (.bool ((rd_T34 t259 (ji70)).f5))) (fun _ h_ => h_.1)))).2.2) | (with_reducible refine Kd.C_alloc ?_ _) | (with_reducible refine Kd.C_drewN ?_ _) | (with_reducible refine Kd.C_drew ?_))); (case side4 => exact HC265_4.out); rintro e w' ⟨rfl, ⟨nd, rfl⟩⟩; refine ⟨_, rfl, ?_⟩) | (go_at_call 19; (with_reducible refine (packthreadkeep_sameRanges.calls kj57 _ _ ((rd_T34 t255 (ji67)).f3) _ _ ((rd_T34 t259 (ji70)).f3) t268 _ ?side1 ?side2 ?side3 ?side4 A76.out).mono ?_); (case side1 => repeat (first | exact ((Kd.V_reads' (by (with_reducible repeat (first | apply Kd.V_alloc | apply Kd.V_drewN | apply Kd.V_drew)); exact (Kd.V_mono (Kd.V_far (p := ⟨gb266, 5, none⟩) (Kd.V_far (p := ⟨gb266, 4, none⟩) (Kd.V_far (p := ⟨gb266, 3, none⟩) (Kd.V_far (p := ⟨gb266, 2, none⟩) (Kd.V_far (p := ⟨gb266, 1, none⟩) (Kd.V_far (p := ⟨gb266, 0, none⟩) (Kd.V_mono HL263_3.out (fun k_ hk => (⟨hk, hk.2⟩ : _ ∧ k_ ≠ gb266))) (fun _ hk => by first | exact hk.2 | (and_intros <;> first | exact hk | exact hk.1 | exact hk.2 | exact hk.1.1 | exact hk.1.2 | exact hk.2.1 | exact hk.2.2 | exact hk.1.1.1 | exact hk.1.1.2 | exact hk.2.2.1 | exact hk.2.2.2)) (.int .i64 ((rd_T34 t259 (ji70)).f0))) (fun _ hk => by first | exact hk.2 | (and_intros <;> first | exact hk | exact hk.1 | exact hk.2 | exact hk.1.1 | exact hk.1.2 | exact hk.2.1 | exact hk.2.2 | exact hk.1.1.1 | exact hk.1.1.2 | exact hk.2.2.1 | exact hk.2.2.2)) (.int .i64 ((rd_T34 t259 (ji70)).f1))) (fun _ hk => by first | exact hk.2 | (and_intros <;> first | exact hk | exact hk.1 | exact hk.2 | exact hk.1.1 | exact hk.1.2 | exact hk.2.1 | exact hk.2.2 | exact hk.1.1.1 | exact hk.1.1.2 | exact hk.2.2.1 | exact hk.2.2.2)) (.int .i64 ((rd_T34 t259 (ji70)).f2))) (fun _ hk => by first | exact hk.2 | (and_intros <;> first | exact hk | exact hk.1 | exact hk.2 | exact hk.1.1 | exact hk.1.2 | exact hk.2.1 | exact hk.2.2 | exact hk.1.1.1 | exact hk.1.1.2 | exact hk.2.2.1 | exact hk.2.2.2)) (.slice A265_3 ((rd_T34 t259 (ji70)).f3).length c265_3)) (fun _ hk => by first | exact hk.2 | (and_intros <;> first | exact hk | exact hk.1 | exact hk.2 | exact hk.1.1 | exact hk.1.2 | exact hk.2.1 | exact hk.2.2 | exact hk.1.1.1 | exact hk.1.1.2 | exact hk.2.2.1 | exact hk.2.2.2)) (.slice A265_4 ((rd_T34 t259 (ji70)).f4).length c265_4)) (fun _ hk => by first | exact hk.2 | (and_intros <;> first | exact hk | exact hk.1 | exact hk.2 | exact hk.1.1 | exact hk.1.2 | exact hk.2.1 | exact hk.2.2 | exact hk.1.1.1 | exact hk.1.1.2 | exact hk.2.2.1 | exact hk.2.2.2)) (.bool ((rd_T34 t259 (ji70)).f5))) (fun _ h_ => h_.1)))).2.2) | (with_reducible refine Kd.C_alloc ?_ _) | (with_reducible refine Kd.C_drewN ?_ _) | (with_reducible refine Kd.C_drew ?_))); (case side2 => exact HC263_3.out); (case side3 => repeat (first | exact ((Kd.V_reads' (by (with_reducible repeat (first | apply Kd.V_alloc | apply Kd.V_drewN | apply Kd.V_drew)); exact (Kd.V_mono (Kd.V_far (p := ⟨gb266, 5, none⟩) (Kd.V_far (p := ⟨gb266, 4, none⟩) (Kd.V_far (p := ⟨gb266, 3, none⟩) (Kd.V_far (p := ⟨gb266, 2, none⟩) (Kd.V_far (p := ⟨gb266, 1, none⟩) (Kd.V_far (p := ⟨gb266, 0, none⟩) (Kd.V_mono HL265_3.out (fun k_ hk => (⟨hk, hk.2⟩ : _ ∧ k_ ≠ gb266))) (fun _ hk => by first | exact hk.2 | (and_intros <;> first | exact hk | exact hk.1 | exact hk.2 | exact hk.1.1 | exact hk.1.2 | exact hk.2.1 | exact hk.2.2 | exact hk.1.1.1 | exact hk.1.1.2 | exact hk.2.2.1 | exact hk.2.2.2)) (.int .i64 ((rd_T34 t259 (ji70)).f0))) (fun _ hk => by first | exact hk.2 | (and_intros <;> first | exact hk | exact hk.1 | exact hk.2 | exact hk.1.1 | exact hk.1.2 | exact hk.2.1 | exact hk.2.2 | exact hk.1.1.1 | exact hk.1.1.2 | exact hk.2.2.1 | exact hk.2.2.2)) (.int .i64 ((rd_T34 t259 (ji70)).f1))) (fun _ hk => by first | exact hk.2 | (and_intros <;> first | exact hk | exact hk.1 | exact hk.2 | exact hk.1.1 | exact hk.1.2 | exact hk.2.1 | exact hk.2.2 | exact hk.1.1.1 | exact hk.1.1.2 | exact hk.2.2.1 | exact hk.2.2.2)) (.int .i64 ((rd_T34 t259 (ji70)).f2))) (fun _ hk => by first | exact hk.2 | (and_intros <;> first | exact hk | exact hk.1 | exact hk.2 | exact hk.1.1 | exact hk.1.2 | exact hk.2.1 | exact hk.2.2 | exact hk.1.1.1 | exact hk.1.1.2 | exact hk.2.2.1 | exact hk.2.2.2)) (.slice A265_3 ((rd_T34 t259 (ji70)).f3).length c265_3)) (fun _ hk => by first | exact hk.2 | (and_intros <;> first | exact hk | exact hk.1 | exact hk.2 | exact hk.1.1 | exact hk.1.2 | exact hk.2.1 | exact hk.2.2 | exact hk.1.1.1 | exact hk.1.1.2 | exact hk.2.2.1 | exact hk.2.2.2)) (.slice A265_4 ((rd_T34 t259 (ji70)).f4).length c265_4)) (fun _ hk => by first | exact hk.2 | (and_intros <;> first | exact hk | exact hk.1 | exact hk.2 | exact hk.1.1 | exact hk.1.2 | exact hk.2.1 | exact hk.2.2 | exact hk.1.1.1 | exact hk.1.1.2 | exact hk.2.2.1 | exact hk.2.2.2)) (.bool ((rd_T34 t259 (ji70)).f5))) (fun _ h_ => h_.1)))).2.2) | (with_reducible refine Kd.C_alloc ?_ _) | (with_reducible refine Kd.C_drewN ?_ _) | (with_reducible refine Kd.C_drew ?_))); (case side4 => exact HC265_3.out); rintro e w' ⟨rfl, ⟨nd, rfl⟩⟩))
                                    go_ret
                                    exact ⟨by first | rfl | (simp [errW_none, errW_some] <;> rfl) | (simp only [← hji67, ← hji70]; first | rfl | (simp [errW_none, errW_some] <;> rfl)) | (simp [*, errW_none, errW_some] <;> rfl), by repeat (first | (with_reducible first | exact HB.out | apply below_alloc | apply pw_below_drewN | apply below_drew1 | refine below_set ?_ GE264.out | refine below_set ?_ GE266.out) | exact HB.out)⟩
                                  · rw [if_neg c75] at H
                                    have c75b0 : (((rd_T34 t255 (ji67)).f1) == ((rd_T34 t259 (ji70)).f1)) = false := beq_eq_false_iff_ne.mpr c75
                                    have c75b1 : (((rd_T34 t255 (ji67)).f1) != ((rd_T34 t259 (ji70)).f1)) = true := bne_iff_ne.mpr c75
                                    obtain rfl := Option.some.inj H
                                    obtain ⟨Ao96, co96, eo96⟩ := Kd.N_slice HO_22.out
                                    subst eo96
                                    have p263 : 0 ≤ ((ji67) : Int) := of_decide_eq_true (by first | (with_reducible assumption) | assumption)
                                    have q263 : (ji67) < (t255.length : Int) := of_decide_eq_true (by first | (with_reducible assumption) | assumption)
                                    obtain ⟨ad263, A263_3, c263_3, A263_4, c263_4, e263, hx263_0, hx263_1, hx263_2, hx263_3, hx263_4, hx263_5, hl263_3, hi263_3, hl263_4, hi263_4⟩ := at_T34 (Kd.N_reads' HO_22.out).2.2 (ji67) p263 q263
                                    cases e263
                                    obtain ⟨ce263, hce263, hMe263, hcc263⟩ := Kd.N_get HO_22.out z34 (ji67) p263 (by first | exact q263 | exact of_decide_eq_true (by first | (with_reducible assumption) | assumption) | (have e_ := (Kd.N_reads' HO_22.out).1; omega))
                                    obtain ⟨ua263_3, uc263_3, ua263_4, uc263_4, rfl, ul263_3, ge263_3, ul263_4, ge263_4⟩ := k34_openF hMe263
                                    have hv263_3 := hcc263 3 _ rfl
                                    rw [add_field _ _ 3 (by omega)] at hv263_3
                                    replace hv263_3 := Option.some.inj (hv263_3.symm.trans hx263_3)
                                    injection hv263_3 with hva_ hvn_ hvc_
                                    rw [hva_] at ge263_3
                                    rw [hvc_] at ul263_3
                                    have HL263_3 := Aside0.mk (show Kd.V k56 56 _ w.heap.size _ _ ((rd_T34 t255 (ji67)).f3) from Kd.V_mk ul263_3 ge263_3)
                                    clear hva_ hvn_ hvc_ ge263_3 ul263_3
                                    have hv263_4 := hcc263 4 _ rfl
                                    rw [add_field _ _ 4 (by omega)] at hv263_4
                                    replace hv263_4 := Option.some.inj (hv263_4.symm.trans hx263_4)
                                    injection hv263_4 with hva_ hvn_ hvc_
                                    rw [hva_] at ge263_4
                                    rw [hvc_] at ul263_4
                                    have HL263_4 := Aside0.mk (show Kd.V (Kd.int .u8) 5 _ w.heap.size _ _ ((rd_T34 t255 (ji67)).f4) from Kd.V_mk ul263_4 ge263_4)
                                    clear hva_ hvn_ hvc_ ge263_4 ul263_4
                                    clear hcc263 hce263
                                    have HR263_3 := Aside0.mk hi263_3
                                    have HC263_3 := Aside0.mk hl263_3
                                    clear hi263_3 hl263_3
                                    have HR263_4 := Aside0.mk hi263_4
                                    have HC263_4 := Aside0.mk hl263_4
                                    clear hi263_4 hl263_4
                                    replace p263 := eq_true p263
                                    replace q263 := eq_true q263
                                    go_wp2_with (first | ((with_reducible refine gate_dst (N := 26) rfl ?_); refine box_event ?hg (N := 26) ?hd (cs := #[.int .i64 0, .int .i64 0, .int .i64 0, .slice none 0 0, .slice none 0 0, .bool false]) (t := 34) ?hr ?_; (case hd => rfl); (case hg => rfl); (case hr => first | (go_simp; done) | (go_simp; rfl)); intro gb264 hg w97 hbox hb; have n0_ := Aside0.mk (Kd.N_below (Kd.N_elderB (by (with_reducible repeat (first | apply Kd.N_alloc | apply Kd.N_drewN | apply Kd.N_drew)); exact HO_22.out) gb264 (Nat.le_of_eq hg.symm)) hb); have n1_ := Aside0.mk (Kd.N_below (Kd.N_elderB (by (with_reducible repeat (first | apply Kd.N_alloc | apply Kd.N_drewN | apply Kd.N_drew)); exact HO_24.out) gb264 (Nat.le_of_eq hg.symm)) hb); have n2_ := Aside0.mk (Kd.V_below (Kd.V_elderB (by (with_reducible repeat (first | apply Kd.V_alloc | apply Kd.V_drewN | apply Kd.V_drew)); exact HL263_3.out) gb264 (Nat.le_of_eq hg.symm)) hb); have n3_ := Aside0.mk (Kd.V_below (Kd.V_elderB (by (with_reducible repeat (first | apply Kd.V_alloc | apply Kd.V_drewN | apply Kd.V_drew)); exact HL263_4.out) gb264 (Nat.le_of_eq hg.symm)) hb); have n4_ := Aside0.mk (Kd.C_below (by repeat (first | (with_reducible exact HR263_3.out) | (with_reducible refine Kd.C_alloc ?_ _) | (with_reducible refine Kd.C_drewN ?_ _) | (with_reducible refine Kd.C_drew ?_) | exact HR263_3.out)) hb); have n5_ := Aside0.mk (Kd.C_below (by repeat (first | (with_reducible exact HR263_4.out) | (with_reducible refine Kd.C_alloc ?_ _) | (with_reducible refine Kd.C_drewN ?_ _) | (with_reducible refine Kd.C_drew ?_) | exact HR263_4.out)) hb); have n6_ := Aside0.mk (below_step (by repeat (first | (with_reducible first | exact HB.out | apply below_alloc | apply pw_below_drewN | apply below_drew1) | exact HB.out)) hb); have n7_ := Aside0.mk (hbox); have n8_ := Aside0.mk ((by rw [hg]; exact (below_size (by repeat (first | (with_reducible first | exact HB.out | apply below_alloc | apply pw_below_drewN | apply below_drew1) | exact HB.out))) : w.heap.size ≤ gb264)); have n9_ := Aside0.mk ((by rw [hg]; exact (below_size (by repeat (first | (with_reducible first | exact HB.out | apply below_alloc | apply pw_below_drewN | apply below_drew1) | exact HB.out))) : w.heap.size ≤ gb264)); clear HO_22; clear HO_24; clear HL263_3; clear HL263_4; clear HR263_3; clear HR263_4; clear HB; have HO_22 := n0_; have HO_24 := n1_; have HL263_3 := n2_; have HL263_4 := n3_; have HR263_3 := n4_; have HR263_4 := n5_; have HB := n6_; have BK264 := n7_; have GW264 := n8_; have GE264 := n9_; clear n0_ n1_ n2_ n3_ n4_ n5_ n6_ n7_ n8_ n9_; clear hb hbox hg; have hcz98_0 : w97.cell? ⟨gb264, 0, none⟩ = some (.int .i64 0) := (blk_cell BK264.out 0).trans rfl; have hcz98_1 : w97.cell? ⟨gb264, 1, none⟩ = some (.int .i64 0) := (blk_cell BK264.out 1).trans rfl; have hcz98_2 : w97.cell? ⟨gb264, 2, none⟩ = some (.int .i64 0) := (blk_cell BK264.out 2).trans rfl; have hcz98_3 : w97.cell? ⟨gb264, 3, none⟩ = some (.slice none 0 0) := (blk_cell BK264.out 3).trans rfl; have hcz98_4 : w97.cell? ⟨gb264, 4, none⟩ = some (.slice none 0 0) := (blk_cell BK264.out 4).trans rfl; have hcz98_5 : w97.cell? ⟨gb264, 5, none⟩ = some (.bool false) := (blk_cell BK264.out 5).trans rfl; have hfz98_0 := blk_frozen BK264.out 0; have hfz98_1 := blk_frozen BK264.out 1; have hfz98_2 := blk_frozen BK264.out 2; have hfz98_3 := blk_frozen BK264.out 3; have hfz98_4 := blk_frozen BK264.out 4; have hfz98_5 := blk_frozen BK264.out 5) | ((with_reducible refine gate_store (t := 34) (p := 26) rfl ?_); refine store_event (t := 34) (p := 26) (v := ?vo_w104) (w1 := ((((((w97.setCell ⟨gb264, 0, none⟩ (.int .i64 ((rd_T34 t255 (ji67)).f0))).setCell ⟨gb264, 1, none⟩ (.int .i64 ((rd_T34 t255 (ji67)).f1))).setCell ⟨gb264, 2, none⟩ (.int .i64 ((rd_T34 t255 (ji67)).f2))).setCell ⟨gb264, 3, none⟩ (.slice A263_3 ((rd_T34 t255 (ji67)).f3).length c263_3)).setCell ⟨gb264, 4, none⟩ (.slice A263_4 ((rd_T34 t255 (ji67)).f4).length c263_4)).setCell ⟨gb264, 5, none⟩ (.bool ((rd_T34 t255 (ji67)).f5)))) ?hg ?ho ?hn ?hr ?_; (case ho => rfl); (case hg => rfl); (case hn => rfl); (case hr => first | (go_simp; done) | (go_simp; rfl)); intro w104 hw; have n0_ : Aside0 (Kd.N k34 34 w104 w.heap.size (fun k_ => some k_ ≠ (v260 : Value).ownBlock ∧ k_ ≠ gb264) (.slice (some ad263) t255.length co96) t255) := ⟨(by rw [hw]; exact (by (with_reducible repeat (first | apply Kd.N_alloc | apply Kd.N_drewN | apply Kd.N_drew)); exact Kd.N_mono (Kd.N_far (p := ⟨gb264, 5, none⟩) (Kd.N_far (p := ⟨gb264, 4, none⟩) (Kd.N_far (p := ⟨gb264, 3, none⟩) (Kd.N_far (p := ⟨gb264, 2, none⟩) (Kd.N_far (p := ⟨gb264, 1, none⟩) (Kd.N_far (p := ⟨gb264, 0, none⟩) (Kd.N_mono HO_22.out (fun k_ hk => (⟨hk, hk.2⟩ : _ ∧ k_ ≠ gb264))) (fun _ hk => by first | exact hk.2 | (and_intros <;> first | exact hk | exact hk.1 | exact hk.2 | exact hk.1.1 | exact hk.1.2 | exact hk.2.1 | exact hk.2.2 | exact hk.1.1.1 | exact hk.1.1.2 | exact hk.2.2.1 | exact hk.2.2.2)) (.int .i64 ((rd_T34 t255 (ji67)).f0))) (fun _ hk => by first | exact hk.2 | (and_intros <;> first | exact hk | exact hk.1 | exact hk.2 | exact hk.1.1 | exact hk.1.2 | exact hk.2.1 | exact hk.2.2 | exact hk.1.1.1 | exact hk.1.1.2 | exact hk.2.2.1 | exact hk.2.2.2)) (.int .i64 ((rd_T34 t255 (ji67)).f1))) (fun _ hk => by first | exact hk.2 | (and_intros <;> first | exact hk | exact hk.1 | exact hk.2 | exact hk.1.1 | exact hk.1.2 | exact hk.2.1 | exact hk.2.2 | exact hk.1.1.1 | exact hk.1.1.2 | exact hk.2.2.1 | exact hk.2.2.2)) (.int .i64 ((rd_T34 t255 (ji67)).f2))) (fun _ hk => by first | exact hk.2 | (and_intros <;> first | exact hk | exact hk.1 | exact hk.2 | exact hk.1.1 | exact hk.1.2 | exact hk.2.1 | exact hk.2.2 | exact hk.1.1.1 | exact hk.1.1.2 | exact hk.2.2.1 | exact hk.2.2.2)) (.slice A263_3 ((rd_T34 t255 (ji67)).f3).length c263_3)) (fun _ hk => by first | exact hk.2 | (and_intros <;> first | exact hk | exact hk.1 | exact hk.2 | exact hk.1.1 | exact hk.1.2 | exact hk.2.1 | exact hk.2.2 | exact hk.1.1.1 | exact hk.1.1.2 | exact hk.2.2.1 | exact hk.2.2.2)) (.slice A263_4 ((rd_T34 t255 (ji67)).f4).length c263_4)) (fun _ hk => by first | exact hk.2 | (and_intros <;> first | exact hk | exact hk.1 | exact hk.2 | exact hk.1.1 | exact hk.1.2 | exact hk.2.1 | exact hk.2.2 | exact hk.1.1.1 | exact hk.1.1.2 | exact hk.2.2.1 | exact hk.2.2.2)) (.bool ((rd_T34 t255 (ji67)).f5))) (fun _ hk => by first | exact ⟨hk.1.1, hk.1.2⟩ | (and_intros <;> first | exact hk | exact hk.1 | exact hk.2 | exact hk.1.1 | exact hk.1.2 | exact hk.2.1 | exact hk.2.2 | exact hk.1.1.1 | exact hk.1.1.2 | exact hk.2.2.1 | exact hk.2.2.2))))⟩; have n1_ : Aside0 (Kd.N k34 34 w104 w.heap.size (fun k_ => some k_ ≠ (.slice (some ad263) t255.length co96 : Value).ownBlock ∧ k_ ≠ gb264) v260 t259) := ⟨(by rw [hw]; exact (by (with_reducible repeat (first | apply Kd.N_alloc | apply Kd.N_drewN | apply Kd.N_drew)); exact Kd.N_mono (Kd.N_far (p := ⟨gb264, 5, none⟩) (Kd.N_far (p := ⟨gb264, 4, none⟩) (Kd.N_far (p := ⟨gb264, 3, none⟩) (Kd.N_far (p := ⟨gb264, 2, none⟩) (Kd.N_far (p := ⟨gb264, 1, none⟩) (Kd.N_far (p := ⟨gb264, 0, none⟩) (Kd.N_mono HO_24.out (fun k_ hk => (⟨hk, hk.2⟩ : _ ∧ k_ ≠ gb264))) (fun _ hk => by first | exact hk.2 | (and_intros <;> first | exact hk | exact hk.1 | exact hk.2 | exact hk.1.1 | exact hk.1.2 | exact hk.2.1 | exact hk.2.2 | exact hk.1.1.1 | exact hk.1.1.2 | exact hk.2.2.1 | exact hk.2.2.2)) (.int .i64 ((rd_T34 t255 (ji67)).f0))) (fun _ hk => by first | exact hk.2 | (and_intros <;> first | exact hk | exact hk.1 | exact hk.2 | exact hk.1.1 | exact hk.1.2 | exact hk.2.1 | exact hk.2.2 | exact hk.1.1.1 | exact hk.1.1.2 | exact hk.2.2.1 | exact hk.2.2.2)) (.int .i64 ((rd_T34 t255 (ji67)).f1))) (fun _ hk => by first | exact hk.2 | (and_intros <;> first | exact hk | exact hk.1 | exact hk.2 | exact hk.1.1 | exact hk.1.2 | exact hk.2.1 | exact hk.2.2 | exact hk.1.1.1 | exact hk.1.1.2 | exact hk.2.2.1 | exact hk.2.2.2)) (.int .i64 ((rd_T34 t255 (ji67)).f2))) (fun _ hk => by first | exact hk.2 | (and_intros <;> first | exact hk | exact hk.1 | exact hk.2 | exact hk.1.1 | exact hk.1.2 | exact hk.2.1 | exact hk.2.2 | exact hk.1.1.1 | exact hk.1.1.2 | exact hk.2.2.1 | exact hk.2.2.2)) (.slice A263_3 ((rd_T34 t255 (ji67)).f3).length c263_3)) (fun _ hk => by first | exact hk.2 | (and_intros <;> first | exact hk | exact hk.1 | exact hk.2 | exact hk.1.1 | exact hk.1.2 | exact hk.2.1 | exact hk.2.2 | exact hk.1.1.1 | exact hk.1.1.2 | exact hk.2.2.1 | exact hk.2.2.2)) (.slice A263_4 ((rd_T34 t255 (ji67)).f4).length c263_4)) (fun _ hk => by first | exact hk.2 | (and_intros <;> first | exact hk | exact hk.1 | exact hk.2 | exact hk.1.1 | exact hk.1.2 | exact hk.2.1 | exact hk.2.2 | exact hk.1.1.1 | exact hk.1.1.2 | exact hk.2.2.1 | exact hk.2.2.2)) (.bool ((rd_T34 t255 (ji67)).f5))) (fun _ hk => by first | exact ⟨hk.1.1, hk.1.2⟩ | (and_intros <;> first | exact hk | exact hk.1 | exact hk.2 | exact hk.1.1 | exact hk.1.2 | exact hk.2.1 | exact hk.2.2 | exact hk.1.1.1 | exact hk.1.1.2 | exact hk.2.2.1 | exact hk.2.2.2))))⟩; have n2_ : Aside0 (Kd.V k56 56 w104 w.heap.size (fun k_ => some k_ ≠ (.slice (some ad263) t255.length co96 : Value).ownBlock ∧ some k_ ≠ (v260 : Value).ownBlock ∧ k_ ≠ gb264) (.slice A263_3 ((rd_T34 t255 (ji67)).f3).length c263_3) ((rd_T34 t255 (ji67)).f3)) := ⟨(by rw [hw]; exact (by (with_reducible repeat (first | apply Kd.V_alloc | apply Kd.V_drewN | apply Kd.V_drew)); exact Kd.V_mono (Kd.V_far (p := ⟨gb264, 5, none⟩) (Kd.V_far (p := ⟨gb264, 4, none⟩) (Kd.V_far (p := ⟨gb264, 3, none⟩) (Kd.V_far (p := ⟨gb264, 2, none⟩) (Kd.V_far (p := ⟨gb264, 1, none⟩) (Kd.V_far (p := ⟨gb264, 0, none⟩) (Kd.V_mono HL263_3.out (fun k_ hk => (⟨hk, hk.2⟩ : _ ∧ k_ ≠ gb264))) (fun _ hk => by first | exact hk.2 | (and_intros <;> first | exact hk | exact hk.1 | exact hk.2 | exact hk.1.1 | exact hk.1.2 | exact hk.2.1 | exact hk.2.2 | exact hk.1.1.1 | exact hk.1.1.2 | exact hk.2.2.1 | exact hk.2.2.2)) (.int .i64 ((rd_T34 t255 (ji67)).f0))) (fun _ hk => by first | exact hk.2 | (and_intros <;> first | exact hk | exact hk.1 | exact hk.2 | exact hk.1.1 | exact hk.1.2 | exact hk.2.1 | exact hk.2.2 | exact hk.1.1.1 | exact hk.1.1.2 | exact hk.2.2.1 | exact hk.2.2.2)) (.int .i64 ((rd_T34 t255 (ji67)).f1))) (fun _ hk => by first | exact hk.2 | (and_intros <;> first | exact hk | exact hk.1 | exact hk.2 | exact hk.1.1 | exact hk.1.2 | exact hk.2.1 | exact hk.2.2 | exact hk.1.1.1 | exact hk.1.1.2 | exact hk.2.2.1 | exact hk.2.2.2)) (.int .i64 ((rd_T34 t255 (ji67)).f2))) (fun _ hk => by first | exact hk.2 | (and_intros <;> first | exact hk | exact hk.1 | exact hk.2 | exact hk.1.1 | exact hk.1.2 | exact hk.2.1 | exact hk.2.2 | exact hk.1.1.1 | exact hk.1.1.2 | exact hk.2.2.1 | exact hk.2.2.2)) (.slice A263_3 ((rd_T34 t255 (ji67)).f3).length c263_3)) (fun _ hk => by first | exact hk.2 | (and_intros <;> first | exact hk | exact hk.1 | exact hk.2 | exact hk.1.1 | exact hk.1.2 | exact hk.2.1 | exact hk.2.2 | exact hk.1.1.1 | exact hk.1.1.2 | exact hk.2.2.1 | exact hk.2.2.2)) (.slice A263_4 ((rd_T34 t255 (ji67)).f4).length c263_4)) (fun _ hk => by first | exact hk.2 | (and_intros <;> first | exact hk | exact hk.1 | exact hk.2 | exact hk.1.1 | exact hk.1.2 | exact hk.2.1 | exact hk.2.2 | exact hk.1.1.1 | exact hk.1.1.2 | exact hk.2.2.1 | exact hk.2.2.2)) (.bool ((rd_T34 t255 (ji67)).f5))) (fun _ hk => by first | exact ⟨hk.1.1.2, ⟨hk.1.1.1, hk.1.2⟩⟩ | ((try simp only [and_assoc] at hk); and_intros <;> first | exact hk.1 | exact hk.2.1 | exact hk.2.2.1 | exact hk.2.2.2.1 | exact hk.2.2.2.2.1 | exact hk.2.2.2.2 | exact hk.2.2.2 | exact hk.2.2 | exact hk.2))))⟩; have n3_ : Aside0 (Kd.V (Kd.int .u8) 5 w104 w.heap.size (fun k_ => some k_ ≠ (.slice (some ad263) t255.length co96 : Value).ownBlock ∧ some k_ ≠ (v260 : Value).ownBlock ∧ k_ ≠ gb264) (.slice A263_4 ((rd_T34 t255 (ji67)).f4).length c263_4) ((rd_T34 t255 (ji67)).f4)) := ⟨(by rw [hw]; exact (by (with_reducible repeat (first | apply Kd.V_alloc | apply Kd.V_drewN | apply Kd.V_drew)); exact Kd.V_mono (Kd.V_far (p := ⟨gb264, 5, none⟩) (Kd.V_far (p := ⟨gb264, 4, none⟩) (Kd.V_far (p := ⟨gb264, 3, none⟩) (Kd.V_far (p := ⟨gb264, 2, none⟩) (Kd.V_far (p := ⟨gb264, 1, none⟩) (Kd.V_far (p := ⟨gb264, 0, none⟩) (Kd.V_mono HL263_4.out (fun k_ hk => (⟨hk, hk.2⟩ : _ ∧ k_ ≠ gb264))) (fun _ hk => by first | exact hk.2 | (and_intros <;> first | exact hk | exact hk.1 | exact hk.2 | exact hk.1.1 | exact hk.1.2 | exact hk.2.1 | exact hk.2.2 | exact hk.1.1.1 | exact hk.1.1.2 | exact hk.2.2.1 | exact hk.2.2.2)) (.int .i64 ((rd_T34 t255 (ji67)).f0))) (fun _ hk => by first | exact hk.2 | (and_intros <;> first | exact hk | exact hk.1 | exact hk.2 | exact hk.1.1 | exact hk.1.2 | exact hk.2.1 | exact hk.2.2 | exact hk.1.1.1 | exact hk.1.1.2 | exact hk.2.2.1 | exact hk.2.2.2)) (.int .i64 ((rd_T34 t255 (ji67)).f1))) (fun _ hk => by first | exact hk.2 | (and_intros <;> first | exact hk | exact hk.1 | exact hk.2 | exact hk.1.1 | exact hk.1.2 | exact hk.2.1 | exact hk.2.2 | exact hk.1.1.1 | exact hk.1.1.2 | exact hk.2.2.1 | exact hk.2.2.2)) (.int .i64 ((rd_T34 t255 (ji67)).f2))) (fun _ hk => by first | exact hk.2 | (and_intros <;> first | exact hk | exact hk.1 | exact hk.2 | exact hk.1.1 | exact hk.1.2 | exact hk.2.1 | exact hk.2.2 | exact hk.1.1.1 | exact hk.1.1.2 | exact hk.2.2.1 | exact hk.2.2.2)) (.slice A263_3 ((rd_T34 t255 (ji67)).f3).length c263_3)) (fun _ hk => by first | exact hk.2 | (and_intros <;> first | exact hk | exact hk.1 | exact hk.2 | exact hk.1.1 | exact hk.1.2 | exact hk.2.1 | exact hk.2.2 | exact hk.1.1.1 | exact hk.1.1.2 | exact hk.2.2.1 | exact hk.2.2.2)) (.slice A263_4 ((rd_T34 t255 (ji67)).f4).length c263_4)) (fun _ hk => by first | exact hk.2 | (and_intros <;> first | exact hk | exact hk.1 | exact hk.2 | exact hk.1.1 | exact hk.1.2 | exact hk.2.1 | exact hk.2.2 | exact hk.1.1.1 | exact hk.1.1.2 | exact hk.2.2.1 | exact hk.2.2.2)) (.bool ((rd_T34 t255 (ji67)).f5))) (fun _ hk => by first | exact ⟨hk.1.1.2, ⟨hk.1.1.1, hk.1.2⟩⟩ | ((try simp only [and_assoc] at hk); and_intros <;> first | exact hk.1 | exact hk.2.1 | exact hk.2.2.1 | exact hk.2.2.2.1 | exact hk.2.2.2.2.1 | exact hk.2.2.2.2 | exact hk.2.2.2 | exact hk.2.2 | exact hk.2))))⟩; have n4_ : Aside0 (w104.heap[gb264]? = some (.cells #[.int .i64 ((rd_T34 t255 (ji67)).f0), .int .i64 ((rd_T34 t255 (ji67)).f1), .int .i64 ((rd_T34 t255 (ji67)).f2), .slice A263_3 ((rd_T34 t255 (ji67)).f3).length c263_3, .slice A263_4 ((rd_T34 t255 (ji67)).f4).length c263_4, .bool ((rd_T34 t255 (ji67)).f5)] 34 (0, 0))) := ⟨(by rw [hw]; exact (by (with_reducible repeat (first | refine blk_drewN ?_ _ | refine blk_drew ?_ | refine blk_alloc ?_ _)); refine blk_put (cs := #[.int .i64 ((rd_T34 t255 (ji67)).f0), .int .i64 ((rd_T34 t255 (ji67)).f1), .int .i64 ((rd_T34 t255 (ji67)).f2), .slice A263_3 ((rd_T34 t255 (ji67)).f3).length c263_3, .slice A263_4 ((rd_T34 t255 (ji67)).f4).length c263_4, .bool false]) ?_ 5 _ rfl; (with_reducible repeat (first | refine blk_drewN ?_ _ | refine blk_drew ?_ | refine blk_alloc ?_ _)); refine blk_put (cs := #[.int .i64 ((rd_T34 t255 (ji67)).f0), .int .i64 ((rd_T34 t255 (ji67)).f1), .int .i64 ((rd_T34 t255 (ji67)).f2), .slice A263_3 ((rd_T34 t255 (ji67)).f3).length c263_3, .slice none 0 0, .bool false]) ?_ 4 _ rfl; (with_reducible repeat (first | refine blk_drewN ?_ _ | refine blk_drew ?_ | refine blk_alloc ?_ _)); refine blk_put (cs := #[.int .i64 ((rd_T34 t255 (ji67)).f0), .int .i64 ((rd_T34 t255 (ji67)).f1), .int .i64 ((rd_T34 t255 (ji67)).f2), .slice none 0 0, .slice none 0 0, .bool false]) ?_ 3 _ rfl; (with_reducible repeat (first | refine blk_drewN ?_ _ | refine blk_drew ?_ | refine blk_alloc ?_ _)); refine blk_put (cs := #[.int .i64 ((rd_T34 t255 (ji67)).f0), .int .i64 ((rd_T34 t255 (ji67)).f1), .int .i64 0, .slice none 0 0, .slice none 0 0, .bool false]) ?_ 2 _ rfl; (with_reducible repeat (first | refine blk_drewN ?_ _ | refine blk_drew ?_ | refine blk_alloc ?_ _)); refine blk_put (cs := #[.int .i64 ((rd_T34 t255 (ji67)).f0), .int .i64 0, .int .i64 0, .slice none 0 0, .slice none 0 0, .bool false]) ?_ 1 _ rfl; (with_reducible repeat (first | refine blk_drewN ?_ _ | refine blk_drew ?_ | refine blk_alloc ?_ _)); refine blk_put (cs := #[.int .i64 0, .int .i64 0, .int .i64 0, .slice none 0 0, .slice none 0 0, .bool false]) ?_ 0 _ rfl; (with_reducible repeat (first | refine blk_drewN ?_ _ | refine blk_drew ?_ | refine blk_alloc ?_ _)); exact BK264.out))⟩; have n5_ : Aside0 (Below w.heap.size w w104) := ⟨(by rw [hw]; exact (by repeat (first | (with_reducible first | exact HB.out | apply below_alloc | apply pw_below_drewN | apply below_drew1 | refine below_set ?_ GE264.out) | exact HB.out)))⟩; clear hw; clear HO_22; clear HO_24; clear HL263_3; clear HL263_4; clear BK264; clear HB; have HO_22 := n0_; have HO_24 := n1_; have HL263_3 := n2_; have HL263_4 := n3_; have BK264 := n4_; have HB := n5_; clear n0_ n1_ n2_ n3_ n4_ n5_; obtain ⟨Ao105, co105, eo105⟩ := Kd.N_slice HO_24.out; subst eo105; have p265 : 0 ≤ ((ji70) : Int) := of_decide_eq_true (by first | (with_reducible assumption) | assumption); have q265 : (ji70) < (t259.length : Int) := of_decide_eq_true (by first | (with_reducible assumption) | assumption); obtain ⟨ad265, A265_3, c265_3, A265_4, c265_4, e265, hx265_0, hx265_1, hx265_2, hx265_3, hx265_4, hx265_5, hl265_3, hi265_3, hl265_4, hi265_4⟩ := at_T34 (Kd.N_reads' HO_24.out).2.2 (ji70) p265 q265; cases e265; obtain ⟨ce265, hce265, hMe265, hcc265⟩ := Kd.N_get HO_24.out z34 (ji70) p265 (by first | exact q265 | exact of_decide_eq_true (by first | (with_reducible assumption) | assumption) | (have e_ := (Kd.N_reads' HO_24.out).1; omega)); obtain ⟨ua265_3, uc265_3, ua265_4, uc265_4, rfl, ul265_3, ge265_3, ul265_4, ge265_4⟩ := k34_openF hMe265; have hv265_3 := hcc265 3 _ rfl; rw [add_field _ _ 3 (by omega)] at hv265_3; replace hv265_3 := Option.some.inj (hv265_3.symm.trans hx265_3); injection hv265_3 with hva_ hvn_ hvc_; rw [hva_] at ge265_3; rw [hvc_] at ul265_3; have HL265_3 := Aside0.mk (show Kd.V k56 56 _ w.heap.size _ _ ((rd_T34 t259 (ji70)).f3) from Kd.V_mk ul265_3 ge265_3); clear hva_ hvn_ hvc_ ge265_3 ul265_3; have hv265_4 := hcc265 4 _ rfl; rw [add_field _ _ 4 (by omega)] at hv265_4; replace hv265_4 := Option.some.inj (hv265_4.symm.trans hx265_4); injection hv265_4 with hva_ hvn_ hvc_; rw [hva_] at ge265_4; rw [hvc_] at ul265_4; have HL265_4 := Aside0.mk (show Kd.V (Kd.int .u8) 5 _ w.heap.size _ _ ((rd_T34 t259 (ji70)).f4) from Kd.V_mk ul265_4 ge265_4); clear hva_ hvn_ hvc_ ge265_4 ul265_4; clear hcc265 hce265; have HR265_3 := Aside0.mk hi265_3; have HC265_3 := Aside0.mk hl265_3; clear hi265_3 hl265_3; have HR265_4 := Aside0.mk hi265_4; have HC265_4 := Aside0.mk hl265_4; clear hi265_4 hl265_4; replace p265 := eq_true p265; replace q265 := eq_true q265) | ((with_reducible refine gate_dst (N := 27) rfl ?_); refine box_event ?hg (N := 27) ?hd (cs := #[.int .i64 0, .int .i64 0, .int .i64 0, .slice none 0 0, .slice none 0 0, .bool false]) (t := 34) ?hr ?_; (case hd => rfl); (case hg => rfl); (case hr => first | (go_simp; done) | (go_simp; rfl)); intro gb266 hg w106 hbox hb; have n0_ := Aside0.mk (Kd.N_below (Kd.N_elderB (by (with_reducible repeat (first | apply Kd.N_alloc | apply Kd.N_drewN | apply Kd.N_drew)); exact HO_22.out) gb266 (Nat.le_of_eq hg.symm)) hb); have n1_ := Aside0.mk (Kd.N_below (Kd.N_elderB (by (with_reducible repeat (first | apply Kd.N_alloc | apply Kd.N_drewN | apply Kd.N_drew)); exact HO_24.out) gb266 (Nat.le_of_eq hg.symm)) hb); have n2_ := Aside0.mk (Kd.V_below (Kd.V_elderB (by (with_reducible repeat (first | apply Kd.V_alloc | apply Kd.V_drewN | apply Kd.V_drew)); exact HL263_3.out) gb266 (Nat.le_of_eq hg.symm)) hb); have n3_ := Aside0.mk (Kd.V_below (Kd.V_elderB (by (with_reducible repeat (first | apply Kd.V_alloc | apply Kd.V_drewN | apply Kd.V_drew)); exact HL263_4.out) gb266 (Nat.le_of_eq hg.symm)) hb); have n4_ := Aside0.mk (Kd.V_below (Kd.V_elderB (by (with_reducible repeat (first | apply Kd.V_alloc | apply Kd.V_drewN | apply Kd.V_drew)); exact HL265_3.out) gb266 (Nat.le_of_eq hg.symm)) hb); have n5_ := Aside0.mk (Kd.V_below (Kd.V_elderB (by (with_reducible repeat (first | apply Kd.V_alloc | apply Kd.V_drewN | apply Kd.V_drew)); exact HL265_4.out) gb266 (Nat.le_of_eq hg.symm)) hb); have n6_ := Aside0.mk (Kd.C_below (by repeat (first | (with_reducible exact (Kd.V_reads' HL263_3.out).2.2) | (with_reducible refine Kd.C_alloc ?_ _) | (with_reducible refine Kd.C_drewN ?_ _) | (with_reducible refine Kd.C_drew ?_) | exact (Kd.V_reads' HL263_3.out).2.2)) hb); have n7_ := Aside0.mk (Kd.C_below (by repeat (first | (with_reducible exact (Kd.V_reads' HL263_4.out).2.2) | (with_reducible refine Kd.C_alloc ?_ _) | (with_reducible refine Kd.C_drewN ?_ _) | (with_reducible refine Kd.C_drew ?_) | exact (Kd.V_reads' HL263_4.out).2.2)) hb); have n8_ := Aside0.mk (blk_below (g := gb264) (o := .cells #[.int .i64 ((rd_T34 t255 (ji67)).f0), .int .i64 ((rd_T34 t255 (ji67)).f1), .int .i64 ((rd_T34 t255 (ji67)).f2), .slice A263_3 ((rd_T34 t255 (ji67)).f3).length c263_3, .slice A263_4 ((rd_T34 t255 (ji67)).f4).length c263_4, .bool ((rd_T34 t255 (ji67)).f5)] 34 (0, 0)) (by (with_reducible repeat (first | refine blk_drewN ?_ _ | refine blk_drew ?_ | refine blk_alloc ?_ _)); exact BK264.out) hb); have n9_ := Aside0.mk (Kd.C_below (by repeat (first | (with_reducible exact (Kd.V_reads' HL265_3.out).2.2) | (with_reducible refine Kd.C_alloc ?_ _) | (with_reducible refine Kd.C_drewN ?_ _) | (with_reducible refine Kd.C_drew ?_) | exact (Kd.V_reads' HL265_3.out).2.2)) hb); have n10_ := Aside0.mk (Kd.C_below (by repeat (first | (with_reducible exact (Kd.V_reads' HL265_4.out).2.2) | (with_reducible refine Kd.C_alloc ?_ _) | (with_reducible refine Kd.C_drewN ?_ _) | (with_reducible refine Kd.C_drew ?_) | exact (Kd.V_reads' HL265_4.out).2.2)) hb); have n11_ := Aside0.mk (below_step (by repeat (first | (with_reducible first | exact HB.out | apply below_alloc | apply pw_below_drewN | apply below_drew1 | refine below_set ?_ GE264.out) | exact HB.out)) hb); have n12_ := Aside0.mk (hbox); have n13_ := Aside0.mk ((by rw [hg]; exact (below_size (by repeat (first | (with_reducible first | exact HB.out | apply below_alloc | apply pw_below_drewN | apply below_drew1 | refine below_set ?_ GE264.out) | exact HB.out))) : w.heap.size ≤ gb266)); have n14_ := Aside0.mk ((by rw [hg]; exact (below_size (by repeat (first | (with_reducible first | exact HB.out | apply below_alloc | apply pw_below_drewN | apply below_drew1 | refine below_set ?_ GE264.out) | exact HB.out))) : w.heap.size ≤ gb266)); have n15_ := Aside0.mk ((by rw [hg]; exact Nat.ne_of_lt (blk_lt (g := gb264) (o := .cells #[.int .i64 ((rd_T34 t255 (ji67)).f0), .int .i64 ((rd_T34 t255 (ji67)).f1), .int .i64 ((rd_T34 t255 (ji67)).f2), .slice A263_3 ((rd_T34 t255 (ji67)).f3).length c263_3, .slice A263_4 ((rd_T34 t255 (ji67)).f4).length c263_4, .bool ((rd_T34 t255 (ji67)).f5)] 34 (0, 0)) (by (with_reducible repeat (first | refine blk_drewN ?_ _ | refine blk_drew ?_ | refine blk_alloc ?_ _)); exact BK264.out)) : gb264 ≠ gb266)); have n16_ := Aside0.mk ((by rw [hg]; exact Nat.ne_of_gt (blk_lt (g := gb264) (o := .cells #[.int .i64 ((rd_T34 t255 (ji67)).f0), .int .i64 ((rd_T34 t255 (ji67)).f1), .int .i64 ((rd_T34 t255 (ji67)).f2), .slice A263_3 ((rd_T34 t255 (ji67)).f3).length c263_3, .slice A263_4 ((rd_T34 t255 (ji67)).f4).length c263_4, .bool ((rd_T34 t255 (ji67)).f5)] 34 (0, 0)) (by (with_reducible repeat (first | refine blk_drewN ?_ _ | refine blk_drew ?_ | refine blk_alloc ?_ _)); exact BK264.out)) : gb266 ≠ gb264)); clear HO_22; clear HO_24; clear HL263_3; clear HL263_4; clear HL265_3; clear HL265_4; clear HR263_3; clear HR263_4; clear BK264; clear HR265_3; clear HR265_4; clear HB; have HO_22 := n0_; have HO_24 := n1_; have HL263_3 := n2_; have HL263_4 := n3_; have HL265_3 := n4_; have HL265_4 := n5_; have HR263_3 := n6_; have HR263_4 := n7_; have BK264 := n8_; have HR265_3 := n9_; have HR265_4 := n10_; have HB := n11_; have BK266 := n12_; have GW266 := n13_; have GE266 := n14_; have NB264_266 := n15_; have NB266_264 := n16_; clear n0_ n1_ n2_ n3_ n4_ n5_ n6_ n7_ n8_ n9_ n10_ n11_ n12_ n13_ n14_ n15_ n16_; clear hb hbox hg; have hnb107 := NB266_264.out; have hnc107 := NB264_266.out; have hcz108_0 : w106.cell? ⟨gb266, 0, none⟩ = some (.int .i64 0) := (blk_cell BK266.out 0).trans rfl; have hcz108_1 : w106.cell? ⟨gb266, 1, none⟩ = some (.int .i64 0) := (blk_cell BK266.out 1).trans rfl; have hcz108_2 : w106.cell? ⟨gb266, 2, none⟩ = some (.int .i64 0) := (blk_cell BK266.out 2).trans rfl; have hcz108_3 : w106.cell? ⟨gb266, 3, none⟩ = some (.slice none 0 0) := (blk_cell BK266.out 3).trans rfl; have hcz108_4 : w106.cell? ⟨gb266, 4, none⟩ = some (.slice none 0 0) := (blk_cell BK266.out 4).trans rfl; have hcz108_5 : w106.cell? ⟨gb266, 5, none⟩ = some (.bool false) := (blk_cell BK266.out 5).trans rfl; have hfz108_0 := blk_frozen BK266.out 0; have hfz108_1 := blk_frozen BK266.out 1; have hfz108_2 := blk_frozen BK266.out 2; have hfz108_3 := blk_frozen BK266.out 3; have hfz108_4 := blk_frozen BK266.out 4; have hfz108_5 := blk_frozen BK266.out 5; have hcz114_0 : w106.cell? ⟨gb264, 0, none⟩ = some (.int .i64 ((rd_T34 t255 (ji67)).f0)) := (blk_cell BK264.out 0).trans rfl; have hcz114_1 : w106.cell? ⟨gb264, 1, none⟩ = some (.int .i64 ((rd_T34 t255 (ji67)).f1)) := (blk_cell BK264.out 1).trans rfl; have hcz114_2 : w106.cell? ⟨gb264, 2, none⟩ = some (.int .i64 ((rd_T34 t255 (ji67)).f2)) := (blk_cell BK264.out 2).trans rfl; have hcz114_3 : w106.cell? ⟨gb264, 3, none⟩ = some (.slice A263_3 ((rd_T34 t255 (ji67)).f3).length c263_3) := (blk_cell BK264.out 3).trans rfl; have hcz114_4 : w106.cell? ⟨gb264, 4, none⟩ = some (.slice A263_4 ((rd_T34 t255 (ji67)).f4).length c263_4) := (blk_cell BK264.out 4).trans rfl; have hcz114_5 : w106.cell? ⟨gb264, 5, none⟩ = some (.bool ((rd_T34 t255 (ji67)).f5)) := (blk_cell BK264.out 5).trans rfl; have hfz114_0 := blk_frozen BK264.out 0; have hfz114_1 := blk_frozen BK264.out 1; have hfz114_2 := blk_frozen BK264.out 2; have hfz114_3 := blk_frozen BK264.out 3; have hfz114_4 := blk_frozen BK264.out 4; have hfz114_5 := blk_frozen BK264.out 5) | ((with_reducible refine gate_callee (f := 18) rfl ?_); refine goesL_ (some 150) rfl rfl Try.func18 (by kernel_rfl) rfl #[.slice A263_4 ((rd_T34 t255 (ji67)).f4).length c263_4, .slice A265_4 ((rd_T34 t259 (ji70)).f4).length c265_4] rfl (by (try simp only [List.map_toArray, List.map_cons, List.map_nil]); first | done | (simp only [hji67, hji70]; rfl) | rfl | (simp only [List.length_drop, List.length_take]; rfl)) ?_; (with_reducible refine (packthreadkeep_sameBytes.calls kj57 _ _ ((rd_T34 t255 (ji67)).f4) _ _ ((rd_T34 t259 (ji70)).f4) true _ ?side1 ?side2 ?side3 ?side4 A73.out).mono ?_); (case side1 => repeat (first | exact ((Kd.V_reads' (by (with_reducible repeat (first | apply Kd.V_alloc | apply Kd.V_drewN | apply Kd.V_drew)); exact (Kd.V_mono (Kd.V_far (p := ⟨gb266, 5, none⟩) (Kd.V_far (p := ⟨gb266, 4, none⟩) (Kd.V_far (p := ⟨gb266, 3, none⟩) (Kd.V_far (p := ⟨gb266, 2, none⟩) (Kd.V_far (p := ⟨gb266, 1, none⟩) (Kd.V_far (p := ⟨gb266, 0, none⟩) (Kd.V_mono HL263_4.out (fun k_ hk => (⟨hk, hk.2⟩ : _ ∧ k_ ≠ gb266))) (fun _ hk => by first | exact hk.2 | (and_intros <;> first | exact hk | exact hk.1 | exact hk.2 | exact hk.1.1 | exact hk.1.2 | exact hk.2.1 | exact hk.2.2 | exact hk.1.1.1 | exact hk.1.1.2 | exact hk.2.2.1 | exact hk.2.2.2)) (.int .i64 ((rd_T34 t259 (ji70)).f0))) (fun _ hk => by first | exact hk.2 | (and_intros <;> first | exact hk | exact hk.1 | exact hk.2 | exact hk.1.1 | exact hk.1.2 | exact hk.2.1 | exact hk.2.2 | exact hk.1.1.1 | exact hk.1.1.2 | exact hk.2.2.1 | exact hk.2.2.2)) (.int .i64 ((rd_T34 t259 (ji70)).f1))) (fun _ hk => by first | exact hk.2 | (and_intros <;> first | exact hk | exact hk.1 | exact hk.2 | exact hk.1.1 | exact hk.1.2 | exact hk.2.1 | exact hk.2.2 | exact hk.1.1.1 | exact hk.1.1.2 | exact hk.2.2.1 | exact hk.2.2.2)) (.int .i64 ((rd_T34 t259 (ji70)).f2))) (fun _ hk => by first | exact hk.2 | (and_intros <;> first | exact hk | exact hk.1 | exact hk.2 | exact hk.1.1 | exact hk.1.2 | exact hk.2.1 | exact hk.2.2 | exact hk.1.1.1 | exact hk.1.1.2 | exact hk.2.2.1 | exact hk.2.2.2)) (.slice A265_3 ((rd_T34 t259 (ji70)).f3).length c265_3)) (fun _ hk => by first | exact hk.2 | (and_intros <;> first | exact hk | exact hk.1 | exact hk.2 | exact hk.1.1 | exact hk.1.2 | exact hk.2.1 | exact hk.2.2 | exact hk.1.1.1 | exact hk.1.1.2 | exact hk.2.2.1 | exact hk.2.2.2)) (.slice A265_4 ((rd_T34 t259 (ji70)).f4).length c265_4)) (fun _ hk => by first | exact hk.2 | (and_intros <;> first | exact hk | exact hk.1 | exact hk.2 | exact hk.1.1 | exact hk.1.2 | exact hk.2.1 | exact hk.2.2 | exact hk.1.1.1 | exact hk.1.1.2 | exact hk.2.2.1 | exact hk.2.2.2)) (.bool ((rd_T34 t259 (ji70)).f5))) (fun _ h_ => h_.1)))).2.2) | (with_reducible refine Kd.C_alloc ?_ _) | (with_reducible refine Kd.C_drewN ?_ _) | (with_reducible refine Kd.C_drew ?_))); (case side2 => exact HC263_4.out); (case side3 => repeat (first | exact ((Kd.V_reads' (by (with_reducible repeat (first | apply Kd.V_alloc | apply Kd.V_drewN | apply Kd.V_drew)); exact (Kd.V_mono (Kd.V_far (p := ⟨gb266, 5, none⟩) (Kd.V_far (p := ⟨gb266, 4, none⟩) (Kd.V_far (p := ⟨gb266, 3, none⟩) (Kd.V_far (p := ⟨gb266, 2, none⟩) (Kd.V_far (p := ⟨gb266, 1, none⟩) (Kd.V_far (p := ⟨gb266, 0, none⟩) (Kd.V_mono HL265_4.out (fun k_ hk => (⟨hk, hk.2⟩ : _ ∧ k_ ≠ gb266))) (fun _ hk => by first | exact hk.2 | (and_intros <;> first | exact hk | exact hk.1 | exact hk.2 | exact hk.1.1 | exact hk.1.2 | exact hk.2.1 | exact hk.2.2 | exact hk.1.1.1 | exact hk.1.1.2 | exact hk.2.2.1 | exact hk.2.2.2)) (.int .i64 ((rd_T34 t259 (ji70)).f0))) (fun _ hk => by first | exact hk.2 | (and_intros <;> first | exact hk | exact hk.1 | exact hk.2 | exact hk.1.1 | exact hk.1.2 | exact hk.2.1 | exact hk.2.2 | exact hk.1.1.1 | exact hk.1.1.2 | exact hk.2.2.1 | exact hk.2.2.2)) (.int .i64 ((rd_T34 t259 (ji70)).f1))) (fun _ hk => by first | exact hk.2 | (and_intros <;> first | exact hk | exact hk.1 | exact hk.2 | exact hk.1.1 | exact hk.1.2 | exact hk.2.1 | exact hk.2.2 | exact hk.1.1.1 | exact hk.1.1.2 | exact hk.2.2.1 | exact hk.2.2.2)) (.int .i64 ((rd_T34 t259 (ji70)).f2))) (fun _ hk => by first | exact hk.2 | (and_intros <;> first | exact hk | exact hk.1 | exact hk.2 | exact hk.1.1 | exact hk.1.2 | exact hk.2.1 | exact hk.2.2 | exact hk.1.1.1 | exact hk.1.1.2 | exact hk.2.2.1 | exact hk.2.2.2)) (.slice A265_3 ((rd_T34 t259 (ji70)).f3).length c265_3)) (fun _ hk => by first | exact hk.2 | (and_intros <;> first | exact hk | exact hk.1 | exact hk.2 | exact hk.1.1 | exact hk.1.2 | exact hk.2.1 | exact hk.2.2 | exact hk.1.1.1 | exact hk.1.1.2 | exact hk.2.2.1 | exact hk.2.2.2)) (.slice A265_4 ((rd_T34 t259 (ji70)).f4).length c265_4)) (fun _ hk => by first | exact hk.2 | (and_intros <;> first | exact hk | exact hk.1 | exact hk.2 | exact hk.1.1 | exact hk.1.2 | exact hk.2.1 | exact hk.2.2 | exact hk.1.1.1 | exact hk.1.1.2 | exact hk.2.2.1 | exact hk.2.2.2)) (.bool ((rd_T34 t259 (ji70)).f5))) (fun _ h_ => h_.1)))).2.2) | (with_reducible refine Kd.C_alloc ?_ _) | (with_reducible refine Kd.C_drewN ?_ _) | (with_reducible refine Kd.C_drew ?_))); (case side4 => exact HC265_4.out); rintro e w' ⟨rfl, ⟨nd, rfl⟩⟩; refine ⟨_, rfl, ?_⟩))
                                    go_ret
                                    exact ⟨by first | rfl | (simp [errW_none, errW_some] <;> rfl) | (simp only [← hji67, ← hji70]; first | rfl | (simp [errW_none, errW_some] <;> rfl)) | (simp [*, errW_none, errW_some] <;> rfl), by repeat (first | (with_reducible first | exact HB.out | apply below_alloc | apply pw_below_drewN | apply below_drew1 | refine below_set ?_ GE264.out | refine below_set ?_ GE266.out) | exact HB.out)⟩
                                · replace c74 := Bool.eq_false_iff.mpr c74
                                  subst c74
                                  have H1 : (some false) = some r := by rw [if_neg (show ¬ (false = true) by decide)] at H; exact H
                                  clear H
                                  have H := H1
                                  clear H1
                                  obtain rfl := Option.some.inj H
                                  obtain ⟨Ao115, co115, eo115⟩ := Kd.N_slice HO_22.out
                                  subst eo115
                                  have p263 : 0 ≤ ((ji67) : Int) := of_decide_eq_true (by first | (with_reducible assumption) | assumption)
                                  have q263 : (ji67) < (t255.length : Int) := of_decide_eq_true (by first | (with_reducible assumption) | assumption)
                                  obtain ⟨ad263, A263_3, c263_3, A263_4, c263_4, e263, hx263_0, hx263_1, hx263_2, hx263_3, hx263_4, hx263_5, hl263_3, hi263_3, hl263_4, hi263_4⟩ := at_T34 (Kd.N_reads' HO_22.out).2.2 (ji67) p263 q263
                                  cases e263
                                  obtain ⟨ce263, hce263, hMe263, hcc263⟩ := Kd.N_get HO_22.out z34 (ji67) p263 (by first | exact q263 | exact of_decide_eq_true (by first | (with_reducible assumption) | assumption) | (have e_ := (Kd.N_reads' HO_22.out).1; omega))
                                  obtain ⟨ua263_3, uc263_3, ua263_4, uc263_4, rfl, ul263_3, ge263_3, ul263_4, ge263_4⟩ := k34_openF hMe263
                                  have hv263_3 := hcc263 3 _ rfl
                                  rw [add_field _ _ 3 (by omega)] at hv263_3
                                  replace hv263_3 := Option.some.inj (hv263_3.symm.trans hx263_3)
                                  injection hv263_3 with hva_ hvn_ hvc_
                                  rw [hva_] at ge263_3
                                  rw [hvc_] at ul263_3
                                  have HL263_3 := Aside0.mk (show Kd.V k56 56 _ w.heap.size _ _ ((rd_T34 t255 (ji67)).f3) from Kd.V_mk ul263_3 ge263_3)
                                  clear hva_ hvn_ hvc_ ge263_3 ul263_3
                                  have hv263_4 := hcc263 4 _ rfl
                                  rw [add_field _ _ 4 (by omega)] at hv263_4
                                  replace hv263_4 := Option.some.inj (hv263_4.symm.trans hx263_4)
                                  injection hv263_4 with hva_ hvn_ hvc_
                                  rw [hva_] at ge263_4
                                  rw [hvc_] at ul263_4
                                  have HL263_4 := Aside0.mk (show Kd.V (Kd.int .u8) 5 _ w.heap.size _ _ ((rd_T34 t255 (ji67)).f4) from Kd.V_mk ul263_4 ge263_4)
                                  clear hva_ hvn_ hvc_ ge263_4 ul263_4
                                  clear hcc263 hce263
                                  have HR263_3 := Aside0.mk hi263_3
                                  have HC263_3 := Aside0.mk hl263_3
                                  clear hi263_3 hl263_3
                                  have HR263_4 := Aside0.mk hi263_4
                                  have HC263_4 := Aside0.mk hl263_4
                                  clear hi263_4 hl263_4
                                  replace p263 := eq_true p263
                                  replace q263 := eq_true q263
                                  go_wp2_with (first | ((with_reducible refine gate_dst (N := 26) rfl ?_); refine box_event ?hg (N := 26) ?hd (cs := #[.int .i64 0, .int .i64 0, .int .i64 0, .slice none 0 0, .slice none 0 0, .bool false]) (t := 34) ?hr ?_; (case hd => rfl); (case hg => rfl); (case hr => first | (go_simp; done) | (go_simp; rfl)); intro gb264 hg w116 hbox hb; have n0_ := Aside0.mk (Kd.N_below (Kd.N_elderB (by (with_reducible repeat (first | apply Kd.N_alloc | apply Kd.N_drewN | apply Kd.N_drew)); exact HO_22.out) gb264 (Nat.le_of_eq hg.symm)) hb); have n1_ := Aside0.mk (Kd.N_below (Kd.N_elderB (by (with_reducible repeat (first | apply Kd.N_alloc | apply Kd.N_drewN | apply Kd.N_drew)); exact HO_24.out) gb264 (Nat.le_of_eq hg.symm)) hb); have n2_ := Aside0.mk (Kd.V_below (Kd.V_elderB (by (with_reducible repeat (first | apply Kd.V_alloc | apply Kd.V_drewN | apply Kd.V_drew)); exact HL263_3.out) gb264 (Nat.le_of_eq hg.symm)) hb); have n3_ := Aside0.mk (Kd.V_below (Kd.V_elderB (by (with_reducible repeat (first | apply Kd.V_alloc | apply Kd.V_drewN | apply Kd.V_drew)); exact HL263_4.out) gb264 (Nat.le_of_eq hg.symm)) hb); have n4_ := Aside0.mk (Kd.C_below (by repeat (first | (with_reducible exact HR263_3.out) | (with_reducible refine Kd.C_alloc ?_ _) | (with_reducible refine Kd.C_drewN ?_ _) | (with_reducible refine Kd.C_drew ?_) | exact HR263_3.out)) hb); have n5_ := Aside0.mk (Kd.C_below (by repeat (first | (with_reducible exact HR263_4.out) | (with_reducible refine Kd.C_alloc ?_ _) | (with_reducible refine Kd.C_drewN ?_ _) | (with_reducible refine Kd.C_drew ?_) | exact HR263_4.out)) hb); have n6_ := Aside0.mk (below_step (by repeat (first | (with_reducible first | exact HB.out | apply below_alloc | apply pw_below_drewN | apply below_drew1) | exact HB.out)) hb); have n7_ := Aside0.mk (hbox); have n8_ := Aside0.mk ((by rw [hg]; exact (below_size (by repeat (first | (with_reducible first | exact HB.out | apply below_alloc | apply pw_below_drewN | apply below_drew1) | exact HB.out))) : w.heap.size ≤ gb264)); have n9_ := Aside0.mk ((by rw [hg]; exact (below_size (by repeat (first | (with_reducible first | exact HB.out | apply below_alloc | apply pw_below_drewN | apply below_drew1) | exact HB.out))) : w.heap.size ≤ gb264)); clear HO_22; clear HO_24; clear HL263_3; clear HL263_4; clear HR263_3; clear HR263_4; clear HB; have HO_22 := n0_; have HO_24 := n1_; have HL263_3 := n2_; have HL263_4 := n3_; have HR263_3 := n4_; have HR263_4 := n5_; have HB := n6_; have BK264 := n7_; have GW264 := n8_; have GE264 := n9_; clear n0_ n1_ n2_ n3_ n4_ n5_ n6_ n7_ n8_ n9_; clear hb hbox hg; have hcz117_0 : w116.cell? ⟨gb264, 0, none⟩ = some (.int .i64 0) := (blk_cell BK264.out 0).trans rfl; have hcz117_1 : w116.cell? ⟨gb264, 1, none⟩ = some (.int .i64 0) := (blk_cell BK264.out 1).trans rfl; have hcz117_2 : w116.cell? ⟨gb264, 2, none⟩ = some (.int .i64 0) := (blk_cell BK264.out 2).trans rfl; have hcz117_3 : w116.cell? ⟨gb264, 3, none⟩ = some (.slice none 0 0) := (blk_cell BK264.out 3).trans rfl; have hcz117_4 : w116.cell? ⟨gb264, 4, none⟩ = some (.slice none 0 0) := (blk_cell BK264.out 4).trans rfl; have hcz117_5 : w116.cell? ⟨gb264, 5, none⟩ = some (.bool false) := (blk_cell BK264.out 5).trans rfl; have hfz117_0 := blk_frozen BK264.out 0; have hfz117_1 := blk_frozen BK264.out 1; have hfz117_2 := blk_frozen BK264.out 2; have hfz117_3 := blk_frozen BK264.out 3; have hfz117_4 := blk_frozen BK264.out 4; have hfz117_5 := blk_frozen BK264.out 5) | ((with_reducible refine gate_store (t := 34) (p := 26) rfl ?_); refine store_event (t := 34) (p := 26) (v := ?vo_w123) (w1 := ((((((w116.setCell ⟨gb264, 0, none⟩ (.int .i64 ((rd_T34 t255 (ji67)).f0))).setCell ⟨gb264, 1, none⟩ (.int .i64 ((rd_T34 t255 (ji67)).f1))).setCell ⟨gb264, 2, none⟩ (.int .i64 ((rd_T34 t255 (ji67)).f2))).setCell ⟨gb264, 3, none⟩ (.slice A263_3 ((rd_T34 t255 (ji67)).f3).length c263_3)).setCell ⟨gb264, 4, none⟩ (.slice A263_4 ((rd_T34 t255 (ji67)).f4).length c263_4)).setCell ⟨gb264, 5, none⟩ (.bool ((rd_T34 t255 (ji67)).f5)))) ?hg ?ho ?hn ?hr ?_; (case ho => rfl); (case hg => rfl); (case hn => rfl); (case hr => first | (go_simp; done) | (go_simp; rfl)); intro w123 hw; have n0_ : Aside0 (Kd.N k34 34 w123 w.heap.size (fun k_ => some k_ ≠ (v260 : Value).ownBlock ∧ k_ ≠ gb264) (.slice (some ad263) t255.length co115) t255) := ⟨(by rw [hw]; exact (by (with_reducible repeat (first | apply Kd.N_alloc | apply Kd.N_drewN | apply Kd.N_drew)); exact Kd.N_mono (Kd.N_far (p := ⟨gb264, 5, none⟩) (Kd.N_far (p := ⟨gb264, 4, none⟩) (Kd.N_far (p := ⟨gb264, 3, none⟩) (Kd.N_far (p := ⟨gb264, 2, none⟩) (Kd.N_far (p := ⟨gb264, 1, none⟩) (Kd.N_far (p := ⟨gb264, 0, none⟩) (Kd.N_mono HO_22.out (fun k_ hk => (⟨hk, hk.2⟩ : _ ∧ k_ ≠ gb264))) (fun _ hk => by first | exact hk.2 | (and_intros <;> first | exact hk | exact hk.1 | exact hk.2 | exact hk.1.1 | exact hk.1.2 | exact hk.2.1 | exact hk.2.2 | exact hk.1.1.1 | exact hk.1.1.2 | exact hk.2.2.1 | exact hk.2.2.2)) (.int .i64 ((rd_T34 t255 (ji67)).f0))) (fun _ hk => by first | exact hk.2 | (and_intros <;> first | exact hk | exact hk.1 | exact hk.2 | exact hk.1.1 | exact hk.1.2 | exact hk.2.1 | exact hk.2.2 | exact hk.1.1.1 | exact hk.1.1.2 | exact hk.2.2.1 | exact hk.2.2.2)) (.int .i64 ((rd_T34 t255 (ji67)).f1))) (fun _ hk => by first | exact hk.2 | (and_intros <;> first | exact hk | exact hk.1 | exact hk.2 | exact hk.1.1 | exact hk.1.2 | exact hk.2.1 | exact hk.2.2 | exact hk.1.1.1 | exact hk.1.1.2 | exact hk.2.2.1 | exact hk.2.2.2)) (.int .i64 ((rd_T34 t255 (ji67)).f2))) (fun _ hk => by first | exact hk.2 | (and_intros <;> first | exact hk | exact hk.1 | exact hk.2 | exact hk.1.1 | exact hk.1.2 | exact hk.2.1 | exact hk.2.2 | exact hk.1.1.1 | exact hk.1.1.2 | exact hk.2.2.1 | exact hk.2.2.2)) (.slice A263_3 ((rd_T34 t255 (ji67)).f3).length c263_3)) (fun _ hk => by first | exact hk.2 | (and_intros <;> first | exact hk | exact hk.1 | exact hk.2 | exact hk.1.1 | exact hk.1.2 | exact hk.2.1 | exact hk.2.2 | exact hk.1.1.1 | exact hk.1.1.2 | exact hk.2.2.1 | exact hk.2.2.2)) (.slice A263_4 ((rd_T34 t255 (ji67)).f4).length c263_4)) (fun _ hk => by first | exact hk.2 | (and_intros <;> first | exact hk | exact hk.1 | exact hk.2 | exact hk.1.1 | exact hk.1.2 | exact hk.2.1 | exact hk.2.2 | exact hk.1.1.1 | exact hk.1.1.2 | exact hk.2.2.1 | exact hk.2.2.2)) (.bool ((rd_T34 t255 (ji67)).f5))) (fun _ hk => by first | exact ⟨hk.1.1, hk.1.2⟩ | (and_intros <;> first | exact hk | exact hk.1 | exact hk.2 | exact hk.1.1 | exact hk.1.2 | exact hk.2.1 | exact hk.2.2 | exact hk.1.1.1 | exact hk.1.1.2 | exact hk.2.2.1 | exact hk.2.2.2))))⟩; have n1_ : Aside0 (Kd.N k34 34 w123 w.heap.size (fun k_ => some k_ ≠ (.slice (some ad263) t255.length co115 : Value).ownBlock ∧ k_ ≠ gb264) v260 t259) := ⟨(by rw [hw]; exact (by (with_reducible repeat (first | apply Kd.N_alloc | apply Kd.N_drewN | apply Kd.N_drew)); exact Kd.N_mono (Kd.N_far (p := ⟨gb264, 5, none⟩) (Kd.N_far (p := ⟨gb264, 4, none⟩) (Kd.N_far (p := ⟨gb264, 3, none⟩) (Kd.N_far (p := ⟨gb264, 2, none⟩) (Kd.N_far (p := ⟨gb264, 1, none⟩) (Kd.N_far (p := ⟨gb264, 0, none⟩) (Kd.N_mono HO_24.out (fun k_ hk => (⟨hk, hk.2⟩ : _ ∧ k_ ≠ gb264))) (fun _ hk => by first | exact hk.2 | (and_intros <;> first | exact hk | exact hk.1 | exact hk.2 | exact hk.1.1 | exact hk.1.2 | exact hk.2.1 | exact hk.2.2 | exact hk.1.1.1 | exact hk.1.1.2 | exact hk.2.2.1 | exact hk.2.2.2)) (.int .i64 ((rd_T34 t255 (ji67)).f0))) (fun _ hk => by first | exact hk.2 | (and_intros <;> first | exact hk | exact hk.1 | exact hk.2 | exact hk.1.1 | exact hk.1.2 | exact hk.2.1 | exact hk.2.2 | exact hk.1.1.1 | exact hk.1.1.2 | exact hk.2.2.1 | exact hk.2.2.2)) (.int .i64 ((rd_T34 t255 (ji67)).f1))) (fun _ hk => by first | exact hk.2 | (and_intros <;> first | exact hk | exact hk.1 | exact hk.2 | exact hk.1.1 | exact hk.1.2 | exact hk.2.1 | exact hk.2.2 | exact hk.1.1.1 | exact hk.1.1.2 | exact hk.2.2.1 | exact hk.2.2.2)) (.int .i64 ((rd_T34 t255 (ji67)).f2))) (fun _ hk => by first | exact hk.2 | (and_intros <;> first | exact hk | exact hk.1 | exact hk.2 | exact hk.1.1 | exact hk.1.2 | exact hk.2.1 | exact hk.2.2 | exact hk.1.1.1 | exact hk.1.1.2 | exact hk.2.2.1 | exact hk.2.2.2)) (.slice A263_3 ((rd_T34 t255 (ji67)).f3).length c263_3)) (fun _ hk => by first | exact hk.2 | (and_intros <;> first | exact hk | exact hk.1 | exact hk.2 | exact hk.1.1 | exact hk.1.2 | exact hk.2.1 | exact hk.2.2 | exact hk.1.1.1 | exact hk.1.1.2 | exact hk.2.2.1 | exact hk.2.2.2)) (.slice A263_4 ((rd_T34 t255 (ji67)).f4).length c263_4)) (fun _ hk => by first | exact hk.2 | (and_intros <;> first | exact hk | exact hk.1 | exact hk.2 | exact hk.1.1 | exact hk.1.2 | exact hk.2.1 | exact hk.2.2 | exact hk.1.1.1 | exact hk.1.1.2 | exact hk.2.2.1 | exact hk.2.2.2)) (.bool ((rd_T34 t255 (ji67)).f5))) (fun _ hk => by first | exact ⟨hk.1.1, hk.1.2⟩ | (and_intros <;> first | exact hk | exact hk.1 | exact hk.2 | exact hk.1.1 | exact hk.1.2 | exact hk.2.1 | exact hk.2.2 | exact hk.1.1.1 | exact hk.1.1.2 | exact hk.2.2.1 | exact hk.2.2.2))))⟩; have n2_ : Aside0 (Kd.V k56 56 w123 w.heap.size (fun k_ => some k_ ≠ (.slice (some ad263) t255.length co115 : Value).ownBlock ∧ some k_ ≠ (v260 : Value).ownBlock ∧ k_ ≠ gb264) (.slice A263_3 ((rd_T34 t255 (ji67)).f3).length c263_3) ((rd_T34 t255 (ji67)).f3)) := ⟨(by rw [hw]; exact (by (with_reducible repeat (first | apply Kd.V_alloc | apply Kd.V_drewN | apply Kd.V_drew)); exact Kd.V_mono (Kd.V_far (p := ⟨gb264, 5, none⟩) (Kd.V_far (p := ⟨gb264, 4, none⟩) (Kd.V_far (p := ⟨gb264, 3, none⟩) (Kd.V_far (p := ⟨gb264, 2, none⟩) (Kd.V_far (p := ⟨gb264, 1, none⟩) (Kd.V_far (p := ⟨gb264, 0, none⟩) (Kd.V_mono HL263_3.out (fun k_ hk => (⟨hk, hk.2⟩ : _ ∧ k_ ≠ gb264))) (fun _ hk => by first | exact hk.2 | (and_intros <;> first | exact hk | exact hk.1 | exact hk.2 | exact hk.1.1 | exact hk.1.2 | exact hk.2.1 | exact hk.2.2 | exact hk.1.1.1 | exact hk.1.1.2 | exact hk.2.2.1 | exact hk.2.2.2)) (.int .i64 ((rd_T34 t255 (ji67)).f0))) (fun _ hk => by first | exact hk.2 | (and_intros <;> first | exact hk | exact hk.1 | exact hk.2 | exact hk.1.1 | exact hk.1.2 | exact hk.2.1 | exact hk.2.2 | exact hk.1.1.1 | exact hk.1.1.2 | exact hk.2.2.1 | exact hk.2.2.2)) (.int .i64 ((rd_T34 t255 (ji67)).f1))) (fun _ hk => by first | exact hk.2 | (and_intros <;> first | exact hk | exact hk.1 | exact hk.2 | exact hk.1.1 | exact hk.1.2 | exact hk.2.1 | exact hk.2.2 | exact hk.1.1.1 | exact hk.1.1.2 | exact hk.2.2.1 | exact hk.2.2.2)) (.int .i64 ((rd_T34 t255 (ji67)).f2))) (fun _ hk => by first | exact hk.2 | (and_intros <;> first | exact hk | exact hk.1 | exact hk.2 | exact hk.1.1 | exact hk.1.2 | exact hk.2.1 | exact hk.2.2 | exact hk.1.1.1 | exact hk.1.1.2 | exact hk.2.2.1 | exact hk.2.2.2)) (.slice A263_3 ((rd_T34 t255 (ji67)).f3).length c263_3)) (fun _ hk => by first | exact hk.2 | (and_intros <;> first | exact hk | exact hk.1 | exact hk.2 | exact hk.1.1 | exact hk.1.2 | exact hk.2.1 | exact hk.2.2 | exact hk.1.1.1 | exact hk.1.1.2 | exact hk.2.2.1 | exact hk.2.2.2)) (.slice A263_4 ((rd_T34 t255 (ji67)).f4).length c263_4)) (fun _ hk => by first | exact hk.2 | (and_intros <;> first | exact hk | exact hk.1 | exact hk.2 | exact hk.1.1 | exact hk.1.2 | exact hk.2.1 | exact hk.2.2 | exact hk.1.1.1 | exact hk.1.1.2 | exact hk.2.2.1 | exact hk.2.2.2)) (.bool ((rd_T34 t255 (ji67)).f5))) (fun _ hk => by first | exact ⟨hk.1.1.2, ⟨hk.1.1.1, hk.1.2⟩⟩ | ((try simp only [and_assoc] at hk); and_intros <;> first | exact hk.1 | exact hk.2.1 | exact hk.2.2.1 | exact hk.2.2.2.1 | exact hk.2.2.2.2.1 | exact hk.2.2.2.2 | exact hk.2.2.2 | exact hk.2.2 | exact hk.2))))⟩; have n3_ : Aside0 (Kd.V (Kd.int .u8) 5 w123 w.heap.size (fun k_ => some k_ ≠ (.slice (some ad263) t255.length co115 : Value).ownBlock ∧ some k_ ≠ (v260 : Value).ownBlock ∧ k_ ≠ gb264) (.slice A263_4 ((rd_T34 t255 (ji67)).f4).length c263_4) ((rd_T34 t255 (ji67)).f4)) := ⟨(by rw [hw]; exact (by (with_reducible repeat (first | apply Kd.V_alloc | apply Kd.V_drewN | apply Kd.V_drew)); exact Kd.V_mono (Kd.V_far (p := ⟨gb264, 5, none⟩) (Kd.V_far (p := ⟨gb264, 4, none⟩) (Kd.V_far (p := ⟨gb264, 3, none⟩) (Kd.V_far (p := ⟨gb264, 2, none⟩) (Kd.V_far (p := ⟨gb264, 1, none⟩) (Kd.V_far (p := ⟨gb264, 0, none⟩) (Kd.V_mono HL263_4.out (fun k_ hk => (⟨hk, hk.2⟩ : _ ∧ k_ ≠ gb264))) (fun _ hk => by first | exact hk.2 | (and_intros <;> first | exact hk | exact hk.1 | exact hk.2 | exact hk.1.1 | exact hk.1.2 | exact hk.2.1 | exact hk.2.2 | exact hk.1.1.1 | exact hk.1.1.2 | exact hk.2.2.1 | exact hk.2.2.2)) (.int .i64 ((rd_T34 t255 (ji67)).f0))) (fun _ hk => by first | exact hk.2 | (and_intros <;> first | exact hk | exact hk.1 | exact hk.2 | exact hk.1.1 | exact hk.1.2 | exact hk.2.1 | exact hk.2.2 | exact hk.1.1.1 | exact hk.1.1.2 | exact hk.2.2.1 | exact hk.2.2.2)) (.int .i64 ((rd_T34 t255 (ji67)).f1))) (fun _ hk => by first | exact hk.2 | (and_intros <;> first | exact hk | exact hk.1 | exact hk.2 | exact hk.1.1 | exact hk.1.2 | exact hk.2.1 | exact hk.2.2 | exact hk.1.1.1 | exact hk.1.1.2 | exact hk.2.2.1 | exact hk.2.2.2)) (.int .i64 ((rd_T34 t255 (ji67)).f2))) (fun _ hk => by first | exact hk.2 | (and_intros <;> first | exact hk | exact hk.1 | exact hk.2 | exact hk.1.1 | exact hk.1.2 | exact hk.2.1 | exact hk.2.2 | exact hk.1.1.1 | exact hk.1.1.2 | exact hk.2.2.1 | exact hk.2.2.2)) (.slice A263_3 ((rd_T34 t255 (ji67)).f3).length c263_3)) (fun _ hk => by first | exact hk.2 | (and_intros <;> first | exact hk | exact hk.1 | exact hk.2 | exact hk.1.1 | exact hk.1.2 | exact hk.2.1 | exact hk.2.2 | exact hk.1.1.1 | exact hk.1.1.2 | exact hk.2.2.1 | exact hk.2.2.2)) (.slice A263_4 ((rd_T34 t255 (ji67)).f4).length c263_4)) (fun _ hk => by first | exact hk.2 | (and_intros <;> first | exact hk | exact hk.1 | exact hk.2 | exact hk.1.1 | exact hk.1.2 | exact hk.2.1 | exact hk.2.2 | exact hk.1.1.1 | exact hk.1.1.2 | exact hk.2.2.1 | exact hk.2.2.2)) (.bool ((rd_T34 t255 (ji67)).f5))) (fun _ hk => by first | exact ⟨hk.1.1.2, ⟨hk.1.1.1, hk.1.2⟩⟩ | ((try simp only [and_assoc] at hk); and_intros <;> first | exact hk.1 | exact hk.2.1 | exact hk.2.2.1 | exact hk.2.2.2.1 | exact hk.2.2.2.2.1 | exact hk.2.2.2.2 | exact hk.2.2.2 | exact hk.2.2 | exact hk.2))))⟩; have n4_ : Aside0 (w123.heap[gb264]? = some (.cells #[.int .i64 ((rd_T34 t255 (ji67)).f0), .int .i64 ((rd_T34 t255 (ji67)).f1), .int .i64 ((rd_T34 t255 (ji67)).f2), .slice A263_3 ((rd_T34 t255 (ji67)).f3).length c263_3, .slice A263_4 ((rd_T34 t255 (ji67)).f4).length c263_4, .bool ((rd_T34 t255 (ji67)).f5)] 34 (0, 0))) := ⟨(by rw [hw]; exact (by (with_reducible repeat (first | refine blk_drewN ?_ _ | refine blk_drew ?_ | refine blk_alloc ?_ _)); refine blk_put (cs := #[.int .i64 ((rd_T34 t255 (ji67)).f0), .int .i64 ((rd_T34 t255 (ji67)).f1), .int .i64 ((rd_T34 t255 (ji67)).f2), .slice A263_3 ((rd_T34 t255 (ji67)).f3).length c263_3, .slice A263_4 ((rd_T34 t255 (ji67)).f4).length c263_4, .bool false]) ?_ 5 _ rfl; (with_reducible repeat (first | refine blk_drewN ?_ _ | refine blk_drew ?_ | refine blk_alloc ?_ _)); refine blk_put (cs := #[.int .i64 ((rd_T34 t255 (ji67)).f0), .int .i64 ((rd_T34 t255 (ji67)).f1), .int .i64 ((rd_T34 t255 (ji67)).f2), .slice A263_3 ((rd_T34 t255 (ji67)).f3).length c263_3, .slice none 0 0, .bool false]) ?_ 4 _ rfl; (with_reducible repeat (first | refine blk_drewN ?_ _ | refine blk_drew ?_ | refine blk_alloc ?_ _)); refine blk_put (cs := #[.int .i64 ((rd_T34 t255 (ji67)).f0), .int .i64 ((rd_T34 t255 (ji67)).f1), .int .i64 ((rd_T34 t255 (ji67)).f2), .slice none 0 0, .slice none 0 0, .bool false]) ?_ 3 _ rfl; (with_reducible repeat (first | refine blk_drewN ?_ _ | refine blk_drew ?_ | refine blk_alloc ?_ _)); refine blk_put (cs := #[.int .i64 ((rd_T34 t255 (ji67)).f0), .int .i64 ((rd_T34 t255 (ji67)).f1), .int .i64 0, .slice none 0 0, .slice none 0 0, .bool false]) ?_ 2 _ rfl; (with_reducible repeat (first | refine blk_drewN ?_ _ | refine blk_drew ?_ | refine blk_alloc ?_ _)); refine blk_put (cs := #[.int .i64 ((rd_T34 t255 (ji67)).f0), .int .i64 0, .int .i64 0, .slice none 0 0, .slice none 0 0, .bool false]) ?_ 1 _ rfl; (with_reducible repeat (first | refine blk_drewN ?_ _ | refine blk_drew ?_ | refine blk_alloc ?_ _)); refine blk_put (cs := #[.int .i64 0, .int .i64 0, .int .i64 0, .slice none 0 0, .slice none 0 0, .bool false]) ?_ 0 _ rfl; (with_reducible repeat (first | refine blk_drewN ?_ _ | refine blk_drew ?_ | refine blk_alloc ?_ _)); exact BK264.out))⟩; have n5_ : Aside0 (Below w.heap.size w w123) := ⟨(by rw [hw]; exact (by repeat (first | (with_reducible first | exact HB.out | apply below_alloc | apply pw_below_drewN | apply below_drew1 | refine below_set ?_ GE264.out) | exact HB.out)))⟩; clear hw; clear HO_22; clear HO_24; clear HL263_3; clear HL263_4; clear BK264; clear HB; have HO_22 := n0_; have HO_24 := n1_; have HL263_3 := n2_; have HL263_4 := n3_; have BK264 := n4_; have HB := n5_; clear n0_ n1_ n2_ n3_ n4_ n5_; obtain ⟨Ao124, co124, eo124⟩ := Kd.N_slice HO_24.out; subst eo124; have p265 : 0 ≤ ((ji70) : Int) := of_decide_eq_true (by first | (with_reducible assumption) | assumption); have q265 : (ji70) < (t259.length : Int) := of_decide_eq_true (by first | (with_reducible assumption) | assumption); obtain ⟨ad265, A265_3, c265_3, A265_4, c265_4, e265, hx265_0, hx265_1, hx265_2, hx265_3, hx265_4, hx265_5, hl265_3, hi265_3, hl265_4, hi265_4⟩ := at_T34 (Kd.N_reads' HO_24.out).2.2 (ji70) p265 q265; cases e265; obtain ⟨ce265, hce265, hMe265, hcc265⟩ := Kd.N_get HO_24.out z34 (ji70) p265 (by first | exact q265 | exact of_decide_eq_true (by first | (with_reducible assumption) | assumption) | (have e_ := (Kd.N_reads' HO_24.out).1; omega)); obtain ⟨ua265_3, uc265_3, ua265_4, uc265_4, rfl, ul265_3, ge265_3, ul265_4, ge265_4⟩ := k34_openF hMe265; have hv265_3 := hcc265 3 _ rfl; rw [add_field _ _ 3 (by omega)] at hv265_3; replace hv265_3 := Option.some.inj (hv265_3.symm.trans hx265_3); injection hv265_3 with hva_ hvn_ hvc_; rw [hva_] at ge265_3; rw [hvc_] at ul265_3; have HL265_3 := Aside0.mk (show Kd.V k56 56 _ w.heap.size _ _ ((rd_T34 t259 (ji70)).f3) from Kd.V_mk ul265_3 ge265_3); clear hva_ hvn_ hvc_ ge265_3 ul265_3; have hv265_4 := hcc265 4 _ rfl; rw [add_field _ _ 4 (by omega)] at hv265_4; replace hv265_4 := Option.some.inj (hv265_4.symm.trans hx265_4); injection hv265_4 with hva_ hvn_ hvc_; rw [hva_] at ge265_4; rw [hvc_] at ul265_4; have HL265_4 := Aside0.mk (show Kd.V (Kd.int .u8) 5 _ w.heap.size _ _ ((rd_T34 t259 (ji70)).f4) from Kd.V_mk ul265_4 ge265_4); clear hva_ hvn_ hvc_ ge265_4 ul265_4; clear hcc265 hce265; have HR265_3 := Aside0.mk hi265_3; have HC265_3 := Aside0.mk hl265_3; clear hi265_3 hl265_3; have HR265_4 := Aside0.mk hi265_4; have HC265_4 := Aside0.mk hl265_4; clear hi265_4 hl265_4; replace p265 := eq_true p265; replace q265 := eq_true q265) | ((with_reducible refine gate_dst (N := 27) rfl ?_); refine box_event ?hg (N := 27) ?hd (cs := #[.int .i64 0, .int .i64 0, .int .i64 0, .slice none 0 0, .slice none 0 0, .bool false]) (t := 34) ?hr ?_; (case hd => rfl); (case hg => rfl); (case hr => first | (go_simp; done) | (go_simp; rfl)); intro gb266 hg w125 hbox hb; have n0_ := Aside0.mk (Kd.N_below (Kd.N_elderB (by (with_reducible repeat (first | apply Kd.N_alloc | apply Kd.N_drewN | apply Kd.N_drew)); exact HO_22.out) gb266 (Nat.le_of_eq hg.symm)) hb); have n1_ := Aside0.mk (Kd.N_below (Kd.N_elderB (by (with_reducible repeat (first | apply Kd.N_alloc | apply Kd.N_drewN | apply Kd.N_drew)); exact HO_24.out) gb266 (Nat.le_of_eq hg.symm)) hb); have n2_ := Aside0.mk (Kd.V_below (Kd.V_elderB (by (with_reducible repeat (first | apply Kd.V_alloc | apply Kd.V_drewN | apply Kd.V_drew)); exact HL263_3.out) gb266 (Nat.le_of_eq hg.symm)) hb); have n3_ := Aside0.mk (Kd.V_below (Kd.V_elderB (by (with_reducible repeat (first | apply Kd.V_alloc | apply Kd.V_drewN | apply Kd.V_drew)); exact HL263_4.out) gb266 (Nat.le_of_eq hg.symm)) hb); have n4_ := Aside0.mk (Kd.V_below (Kd.V_elderB (by (with_reducible repeat (first | apply Kd.V_alloc | apply Kd.V_drewN | apply Kd.V_drew)); exact HL265_3.out) gb266 (Nat.le_of_eq hg.symm)) hb); have n5_ := Aside0.mk (Kd.V_below (Kd.V_elderB (by (with_reducible repeat (first | apply Kd.V_alloc | apply Kd.V_drewN | apply Kd.V_drew)); exact HL265_4.out) gb266 (Nat.le_of_eq hg.symm)) hb); have n6_ := Aside0.mk (Kd.C_below (by repeat (first | (with_reducible exact (Kd.V_reads' HL263_3.out).2.2) | (with_reducible refine Kd.C_alloc ?_ _) | (with_reducible refine Kd.C_drewN ?_ _) | (with_reducible refine Kd.C_drew ?_) | exact (Kd.V_reads' HL263_3.out).2.2)) hb); have n7_ := Aside0.mk (Kd.C_below (by repeat (first | (with_reducible exact (Kd.V_reads' HL263_4.out).2.2) | (with_reducible refine Kd.C_alloc ?_ _) | (with_reducible refine Kd.C_drewN ?_ _) | (with_reducible refine Kd.C_drew ?_) | exact (Kd.V_reads' HL263_4.out).2.2)) hb); have n8_ := Aside0.mk (blk_below (g := gb264) (o := .cells #[.int .i64 ((rd_T34 t255 (ji67)).f0), .int .i64 ((rd_T34 t255 (ji67)).f1), .int .i64 ((rd_T34 t255 (ji67)).f2), .slice A263_3 ((rd_T34 t255 (ji67)).f3).length c263_3, .slice A263_4 ((rd_T34 t255 (ji67)).f4).length c263_4, .bool ((rd_T34 t255 (ji67)).f5)] 34 (0, 0)) (by (with_reducible repeat (first | refine blk_drewN ?_ _ | refine blk_drew ?_ | refine blk_alloc ?_ _)); exact BK264.out) hb); have n9_ := Aside0.mk (Kd.C_below (by repeat (first | (with_reducible exact (Kd.V_reads' HL265_3.out).2.2) | (with_reducible refine Kd.C_alloc ?_ _) | (with_reducible refine Kd.C_drewN ?_ _) | (with_reducible refine Kd.C_drew ?_) | exact (Kd.V_reads' HL265_3.out).2.2)) hb); have n10_ := Aside0.mk (Kd.C_below (by repeat (first | (with_reducible exact (Kd.V_reads' HL265_4.out).2.2) | (with_reducible refine Kd.C_alloc ?_ _) | (with_reducible refine Kd.C_drewN ?_ _) | (with_reducible refine Kd.C_drew ?_) | exact (Kd.V_reads' HL265_4.out).2.2)) hb); have n11_ := Aside0.mk (below_step (by repeat (first | (with_reducible first | exact HB.out | apply below_alloc | apply pw_below_drewN | apply below_drew1 | refine below_set ?_ GE264.out) | exact HB.out)) hb); have n12_ := Aside0.mk (hbox); have n13_ := Aside0.mk ((by rw [hg]; exact (below_size (by repeat (first | (with_reducible first | exact HB.out | apply below_alloc | apply pw_below_drewN | apply below_drew1 | refine below_set ?_ GE264.out) | exact HB.out))) : w.heap.size ≤ gb266)); have n14_ := Aside0.mk ((by rw [hg]; exact (below_size (by repeat (first | (with_reducible first | exact HB.out | apply below_alloc | apply pw_below_drewN | apply below_drew1 | refine below_set ?_ GE264.out) | exact HB.out))) : w.heap.size ≤ gb266)); have n15_ := Aside0.mk ((by rw [hg]; exact Nat.ne_of_lt (blk_lt (g := gb264) (o := .cells #[.int .i64 ((rd_T34 t255 (ji67)).f0), .int .i64 ((rd_T34 t255 (ji67)).f1), .int .i64 ((rd_T34 t255 (ji67)).f2), .slice A263_3 ((rd_T34 t255 (ji67)).f3).length c263_3, .slice A263_4 ((rd_T34 t255 (ji67)).f4).length c263_4, .bool ((rd_T34 t255 (ji67)).f5)] 34 (0, 0)) (by (with_reducible repeat (first | refine blk_drewN ?_ _ | refine blk_drew ?_ | refine blk_alloc ?_ _)); exact BK264.out)) : gb264 ≠ gb266)); have n16_ := Aside0.mk ((by rw [hg]; exact Nat.ne_of_gt (blk_lt (g := gb264) (o := .cells #[.int .i64 ((rd_T34 t255 (ji67)).f0), .int .i64 ((rd_T34 t255 (ji67)).f1), .int .i64 ((rd_T34 t255 (ji67)).f2), .slice A263_3 ((rd_T34 t255 (ji67)).f3).length c263_3, .slice A263_4 ((rd_T34 t255 (ji67)).f4).length c263_4, .bool ((rd_T34 t255 (ji67)).f5)] 34 (0, 0)) (by (with_reducible repeat (first | refine blk_drewN ?_ _ | refine blk_drew ?_ | refine blk_alloc ?_ _)); exact BK264.out)) : gb266 ≠ gb264)); clear HO_22; clear HO_24; clear HL263_3; clear HL263_4; clear HL265_3; clear HL265_4; clear HR263_3; clear HR263_4; clear BK264; clear HR265_3; clear HR265_4; clear HB; have HO_22 := n0_; have HO_24 := n1_; have HL263_3 := n2_; have HL263_4 := n3_; have HL265_3 := n4_; have HL265_4 := n5_; have HR263_3 := n6_; have HR263_4 := n7_; have BK264 := n8_; have HR265_3 := n9_; have HR265_4 := n10_; have HB := n11_; have BK266 := n12_; have GW266 := n13_; have GE266 := n14_; have NB264_266 := n15_; have NB266_264 := n16_; clear n0_ n1_ n2_ n3_ n4_ n5_ n6_ n7_ n8_ n9_ n10_ n11_ n12_ n13_ n14_ n15_ n16_; clear hb hbox hg; have hnb126 := NB266_264.out; have hnc126 := NB264_266.out; have hcz127_0 : w125.cell? ⟨gb266, 0, none⟩ = some (.int .i64 0) := (blk_cell BK266.out 0).trans rfl; have hcz127_1 : w125.cell? ⟨gb266, 1, none⟩ = some (.int .i64 0) := (blk_cell BK266.out 1).trans rfl; have hcz127_2 : w125.cell? ⟨gb266, 2, none⟩ = some (.int .i64 0) := (blk_cell BK266.out 2).trans rfl; have hcz127_3 : w125.cell? ⟨gb266, 3, none⟩ = some (.slice none 0 0) := (blk_cell BK266.out 3).trans rfl; have hcz127_4 : w125.cell? ⟨gb266, 4, none⟩ = some (.slice none 0 0) := (blk_cell BK266.out 4).trans rfl; have hcz127_5 : w125.cell? ⟨gb266, 5, none⟩ = some (.bool false) := (blk_cell BK266.out 5).trans rfl; have hfz127_0 := blk_frozen BK266.out 0; have hfz127_1 := blk_frozen BK266.out 1; have hfz127_2 := blk_frozen BK266.out 2; have hfz127_3 := blk_frozen BK266.out 3; have hfz127_4 := blk_frozen BK266.out 4; have hfz127_5 := blk_frozen BK266.out 5; have hcz133_0 : w125.cell? ⟨gb264, 0, none⟩ = some (.int .i64 ((rd_T34 t255 (ji67)).f0)) := (blk_cell BK264.out 0).trans rfl; have hcz133_1 : w125.cell? ⟨gb264, 1, none⟩ = some (.int .i64 ((rd_T34 t255 (ji67)).f1)) := (blk_cell BK264.out 1).trans rfl; have hcz133_2 : w125.cell? ⟨gb264, 2, none⟩ = some (.int .i64 ((rd_T34 t255 (ji67)).f2)) := (blk_cell BK264.out 2).trans rfl; have hcz133_3 : w125.cell? ⟨gb264, 3, none⟩ = some (.slice A263_3 ((rd_T34 t255 (ji67)).f3).length c263_3) := (blk_cell BK264.out 3).trans rfl; have hcz133_4 : w125.cell? ⟨gb264, 4, none⟩ = some (.slice A263_4 ((rd_T34 t255 (ji67)).f4).length c263_4) := (blk_cell BK264.out 4).trans rfl; have hcz133_5 : w125.cell? ⟨gb264, 5, none⟩ = some (.bool ((rd_T34 t255 (ji67)).f5)) := (blk_cell BK264.out 5).trans rfl; have hfz133_0 := blk_frozen BK264.out 0; have hfz133_1 := blk_frozen BK264.out 1; have hfz133_2 := blk_frozen BK264.out 2; have hfz133_3 := blk_frozen BK264.out 3; have hfz133_4 := blk_frozen BK264.out 4; have hfz133_5 := blk_frozen BK264.out 5) | ((with_reducible refine gate_callee (f := 18) rfl ?_); refine goesL_ (some 150) rfl rfl Try.func18 (by kernel_rfl) rfl #[.slice A263_4 ((rd_T34 t255 (ji67)).f4).length c263_4, .slice A265_4 ((rd_T34 t259 (ji70)).f4).length c265_4] rfl (by (try simp only [List.map_toArray, List.map_cons, List.map_nil]); first | done | (simp only [hji67, hji70]; rfl) | rfl | (simp only [List.length_drop, List.length_take]; rfl)) ?_; (with_reducible refine (packthreadkeep_sameBytes.calls kj57 _ _ ((rd_T34 t255 (ji67)).f4) _ _ ((rd_T34 t259 (ji70)).f4) false _ ?side1 ?side2 ?side3 ?side4 A73.out).mono ?_); (case side1 => repeat (first | exact ((Kd.V_reads' (by (with_reducible repeat (first | apply Kd.V_alloc | apply Kd.V_drewN | apply Kd.V_drew)); exact (Kd.V_mono (Kd.V_far (p := ⟨gb266, 5, none⟩) (Kd.V_far (p := ⟨gb266, 4, none⟩) (Kd.V_far (p := ⟨gb266, 3, none⟩) (Kd.V_far (p := ⟨gb266, 2, none⟩) (Kd.V_far (p := ⟨gb266, 1, none⟩) (Kd.V_far (p := ⟨gb266, 0, none⟩) (Kd.V_mono HL263_4.out (fun k_ hk => (⟨hk, hk.2⟩ : _ ∧ k_ ≠ gb266))) (fun _ hk => by first | exact hk.2 | (and_intros <;> first | exact hk | exact hk.1 | exact hk.2 | exact hk.1.1 | exact hk.1.2 | exact hk.2.1 | exact hk.2.2 | exact hk.1.1.1 | exact hk.1.1.2 | exact hk.2.2.1 | exact hk.2.2.2)) (.int .i64 ((rd_T34 t259 (ji70)).f0))) (fun _ hk => by first | exact hk.2 | (and_intros <;> first | exact hk | exact hk.1 | exact hk.2 | exact hk.1.1 | exact hk.1.2 | exact hk.2.1 | exact hk.2.2 | exact hk.1.1.1 | exact hk.1.1.2 | exact hk.2.2.1 | exact hk.2.2.2)) (.int .i64 ((rd_T34 t259 (ji70)).f1))) (fun _ hk => by first | exact hk.2 | (and_intros <;> first | exact hk | exact hk.1 | exact hk.2 | exact hk.1.1 | exact hk.1.2 | exact hk.2.1 | exact hk.2.2 | exact hk.1.1.1 | exact hk.1.1.2 | exact hk.2.2.1 | exact hk.2.2.2)) (.int .i64 ((rd_T34 t259 (ji70)).f2))) (fun _ hk => by first | exact hk.2 | (and_intros <;> first | exact hk | exact hk.1 | exact hk.2 | exact hk.1.1 | exact hk.1.2 | exact hk.2.1 | exact hk.2.2 | exact hk.1.1.1 | exact hk.1.1.2 | exact hk.2.2.1 | exact hk.2.2.2)) (.slice A265_3 ((rd_T34 t259 (ji70)).f3).length c265_3)) (fun _ hk => by first | exact hk.2 | (and_intros <;> first | exact hk | exact hk.1 | exact hk.2 | exact hk.1.1 | exact hk.1.2 | exact hk.2.1 | exact hk.2.2 | exact hk.1.1.1 | exact hk.1.1.2 | exact hk.2.2.1 | exact hk.2.2.2)) (.slice A265_4 ((rd_T34 t259 (ji70)).f4).length c265_4)) (fun _ hk => by first | exact hk.2 | (and_intros <;> first | exact hk | exact hk.1 | exact hk.2 | exact hk.1.1 | exact hk.1.2 | exact hk.2.1 | exact hk.2.2 | exact hk.1.1.1 | exact hk.1.1.2 | exact hk.2.2.1 | exact hk.2.2.2)) (.bool ((rd_T34 t259 (ji70)).f5))) (fun _ h_ => h_.1)))).2.2) | (with_reducible refine Kd.C_alloc ?_ _) | (with_reducible refine Kd.C_drewN ?_ _) | (with_reducible refine Kd.C_drew ?_))); (case side2 => exact HC263_4.out); (case side3 => repeat (first | exact ((Kd.V_reads' (by (with_reducible repeat (first | apply Kd.V_alloc | apply Kd.V_drewN | apply Kd.V_drew)); exact (Kd.V_mono (Kd.V_far (p := ⟨gb266, 5, none⟩) (Kd.V_far (p := ⟨gb266, 4, none⟩) (Kd.V_far (p := ⟨gb266, 3, none⟩) (Kd.V_far (p := ⟨gb266, 2, none⟩) (Kd.V_far (p := ⟨gb266, 1, none⟩) (Kd.V_far (p := ⟨gb266, 0, none⟩) (Kd.V_mono HL265_4.out (fun k_ hk => (⟨hk, hk.2⟩ : _ ∧ k_ ≠ gb266))) (fun _ hk => by first | exact hk.2 | (and_intros <;> first | exact hk | exact hk.1 | exact hk.2 | exact hk.1.1 | exact hk.1.2 | exact hk.2.1 | exact hk.2.2 | exact hk.1.1.1 | exact hk.1.1.2 | exact hk.2.2.1 | exact hk.2.2.2)) (.int .i64 ((rd_T34 t259 (ji70)).f0))) (fun _ hk => by first | exact hk.2 | (and_intros <;> first | exact hk | exact hk.1 | exact hk.2 | exact hk.1.1 | exact hk.1.2 | exact hk.2.1 | exact hk.2.2 | exact hk.1.1.1 | exact hk.1.1.2 | exact hk.2.2.1 | exact hk.2.2.2)) (.int .i64 ((rd_T34 t259 (ji70)).f1))) (fun _ hk => by first | exact hk.2 | (and_intros <;> first | exact hk | exact hk.1 | exact hk.2 | exact hk.1.1 | exact hk.1.2 | exact hk.2.1 | exact hk.2.2 | exact hk.1.1.1 | exact hk.1.1.2 | exact hk.2.2.1 | exact hk.2.2.2)) (.int .i64 ((rd_T34 t259 (ji70)).f2))) (fun _ hk => by first | exact hk.2 | (and_intros <;> first | exact hk | exact hk.1 | exact hk.2 | exact hk.1.1 | exact hk.1.2 | exact hk.2.1 | exact hk.2.2 | exact hk.1.1.1 | exact hk.1.1.2 | exact hk.2.2.1 | exact hk.2.2.2)) (.slice A265_3 ((rd_T34 t259 (ji70)).f3).length c265_3)) (fun _ hk => by first | exact hk.2 | (and_intros <;> first | exact hk | exact hk.1 | exact hk.2 | exact hk.1.1 | exact hk.1.2 | exact hk.2.1 | exact hk.2.2 | exact hk.1.1.1 | exact hk.1.1.2 | exact hk.2.2.1 | exact hk.2.2.2)) (.slice A265_4 ((rd_T34 t259 (ji70)).f4).length c265_4)) (fun _ hk => by first | exact hk.2 | (and_intros <;> first | exact hk | exact hk.1 | exact hk.2 | exact hk.1.1 | exact hk.1.2 | exact hk.2.1 | exact hk.2.2 | exact hk.1.1.1 | exact hk.1.1.2 | exact hk.2.2.1 | exact hk.2.2.2)) (.bool ((rd_T34 t259 (ji70)).f5))) (fun _ h_ => h_.1)))).2.2) | (with_reducible refine Kd.C_alloc ?_ _) | (with_reducible refine Kd.C_drewN ?_ _) | (with_reducible refine Kd.C_drew ?_))); (case side4 => exact HC265_4.out); rintro e w' ⟨rfl, ⟨nd, rfl⟩⟩; refine ⟨_, rfl, ?_⟩))
                                  go_ret
                                  exact ⟨by first | rfl | (simp [errW_none, errW_some] <;> rfl) | (simp only [← hji67, ← hji70]; first | rfl | (simp [errW_none, errW_some] <;> rfl)) | (simp [*, errW_none, errW_some] <;> rfl), by repeat (first | (with_reducible first | exact HB.out | apply below_alloc | apply pw_below_drewN | apply below_drew1 | refine below_set ?_ GE264.out | refine below_set ?_ GE266.out) | exact HB.out)⟩
                              · rw [if_neg c72] at H
                                exact absurd H (by simp)
                            · rw [if_neg c71] at H
                              exact absurd H (by simp)
                          · rw [if_neg c69] at H
                            exact absurd H (by simp)
                        · rw [if_neg c68] at H
                          exact absurd H (by simp)
                · rw [if_neg c55] at H
                  exact absurd H (by simp)
              · rw [if_neg c54] at H
                exact absurd H (by simp)

/-- THE ONE PURE STATEMENT of packthreadkeep_RecvTwice: yours. -/
def packthreadkeep_RecvTwice.Pure : Prop := ∀ (a0 : Int) (a1 : Int) (a2 : Int) (l3 : List Int) (a4 : Int) (a5 : Int), (Lit.int .i64 a0).wf = true → (Lit.int .i64 a1).wf = true → (Lit.int .i64 a2).wf = true → l3.length ≤ maxLen → l3.length * 8 ≤ 140737488351232 → (∀ x ∈ l3, (Lit.int .i64 x).wf = true) → (Lit.int .i64 a4).wf = true → (Lit.int .u8 a5).wf = true → ∃ k, packthreadkeep_RecvTwice.f k a0 a1 a2 l3 a4 a5 = some true
theorem packthreadkeep_RecvTwice.walk (P : packthreadkeep_RecvTwice.Pure) (a0 : Int) (a1 : Int) (a2 : Int) (a3 : Option Addr) (len3 cap3 : Nat) (z3 : List Int) (a4 : Int) (a5 : Int) (w : World) (w0 : (Lit.int .i64 a0).wf = true) (w1 : (Lit.int .i64 a1).wf = true) (w2 : (Lit.int .i64 a2).wf = true) (w3 : (a3 = none ∧ len3 = 0 ∧ cap3 = 0 ∧ z3 = []) ∨ ∃ x, a3 = some x ∧ len3 ≤ cap3 ∧ cap3 ≤ maxLen ∧ z3.length = cap3 ∧ (∀ i, i < z3.length → w.cell? (x.add i) = some (.int .i64 (z3.getD i 0))) ∧ ∀ n ∈ z3, (Lit.int .i64 n).wf = true) (y3 : len3 * 8 ≤ 140737488351232) (w4 : (Lit.int .i64 a4).wf = true) (w5 : (Lit.int .u8 a5).wf = true) :
    Calls Try.prog 5 #[.int .i64 a0, .int .i64 a1, .int .i64 a2, .slice a3 len3 cap3, .int .i64 a4, .int .u8 a5] w fun e w' => e = .returned (.bool true) ∧ Below w.heap.size w w' := by
  obtain ⟨l3, rfl, hr3, hm3, hw3, hc3⟩ := ReadsInt.ofRowC w3
  obtain ⟨k, h⟩ := P a0 a1 a2 l3 a4 a5 w0 w1 w2 hm3 y3 hw3 w4 w5
  refine (packthreadkeep_RecvTwice.calls k a0 a1 a2 _ _ l3 a4 a5 true w (Kd.C_of_reads (d := (0 : Int)) (h1 := fun _ => rfl) hr3) hc3 h).mono ?_
  rintro e w' ⟨rfl, hd⟩
  exact ⟨rfl, hd⟩

end Go.Proofs.Ytjbilachfipicaa.PRecvTwice
