/- Printed by a program of this session (wip/myprint.py): Go functions of the law as Lean functions, and the proof that the code comes to these answers. -/
import Derived.Test.YtknpmpfcmgjpdaaPFrameLongx0
import Derived.Test.YtknpmpfcmgjpdaaPFrameLongx1
namespace Go.Proofs.Ytknpmpfcmgjpdaa.PFrameLong
open Go.RowKit Go.Proofs.YtknpmpfcmgjpdaaW.PrintWords Go.Proofs.YtknpmpfcmgjpdaaW.PrintLast Go.Proofs.YtknpmpfcmgjpdaaW.PrintMore
attribute [local go_sem] max2_int min2_int max_two min_two max_three min_three max_four min_four   -- for this text's walks alone
attribute [local go_sem] pn_setCell_drewN
set_option linter.unusedVariables false
set_option linter.unusedSimpArgs false

/-! ### frame_Feed: function 26 -/
def frame_Feed.l0 : Nat → List Int → List (List Int) → Option ((List (List Int)) × List Int × Int)
 | 0, _, _ => none
 | k + 1, x7, x8 => if (x7.length : Int) ≥ 4 then (if 4 ≤ (x7.length : Int) then ((frame_Get.f k (x7.take 4)).bind fun t156 => (if t156 > 1024 then (some (([] : List (List Int)), ([] : List Int), 1)) else (if (x7.length : Int) < (wrap64 (4 + t156)) then ((slices_Clone_byte_byte.f x7).bind fun t157 => (some (x8, t157, 0))) else (if 4 ≤ (wrap64 (4 + t156)) then (if (wrap64 (4 + t156)) ≤ (x7.length : Int) then ((slices_Clone_byte_byte.f ((x7.take ((wrap64 (4 + t156)) : Int).toNat).drop 4)).bind fun t164 => (if x8.length < 5864062014805 then (if 0 ≤ (wrap64 (4 + t156)) then (frame_Feed.l0 k (x7.drop ((wrap64 (4 + t156)) : Int).toNat) (x8 ++ [t164])) else (none)) else (none))) else (none)) else (none))))) else (none)) else ((slices_Clone_byte_byte.f x7).bind fun t149 => (some (x8, t149, 0)))
def frame_Feed.f (k : Nat) (l0 : List Int) (l1 : List Int) : Option ((List (List Int)) × List Int × Int) := if (l0.length : Int) ≥ 1028 then (some (([] : List (List Int)), ([] : List Int), 10)) else ((slices_Concat_byte_byte.f k (([l0, l1] : List (List Int)))).bind fun t146 => (frame_Feed.l0 k t146 ([] : List (List Int))))
theorem frame_Feed.mono_l : ∀ k, (∀ y0 y1, LeO (frame_Feed.l0 k y0 y1) (frame_Feed.l0 (k + 1) y0 y1))
 | 0 => fun _ _ r h => by simp [frame_Feed.l0] at h
 | k + 1 => by
  have ih0 := frame_Feed.mono_l k
  ·intro y0 y1
   unfold frame_Feed.l0
   repeat' first
   | (with_reducible exact ih0 _ _)
   | (with_reducible exact frame_Get.mono _ _)
   | (with_reducible exact slices_Concat_byte_byte.mono _ _)
   | (with_reducible exact LeO.refl _)
   | (with_reducible exact LeO.none _)
   | (with_reducible refine LeO.ite ?_ ?_)
   | (with_reducible refine LeO.bind ?_ (fun _ => ?_))
   | exact ih0 _ _
   | exact frame_Get.mono _ _
   | exact slices_Concat_byte_byte.mono _ _
   | exact LeO.none _
   | refine LeO.ite ?_ ?_
   | refine LeO.bind ?_ (fun _ => ?_)
theorem frame_Feed.mono : ∀ a0 a1 k, LeO (frame_Feed.f k a0 a1) (frame_Feed.f (k + 1) a0 a1) := by
 intro a0 a1 k
 have ih0 := frame_Feed.mono_l k
 unfold frame_Feed.f
 repeat' first
   | (with_reducible exact ih0 _ _)
   | (with_reducible exact frame_Get.mono _ _)
   | (with_reducible exact slices_Concat_byte_byte.mono _ _)
   | (with_reducible exact LeO.refl _)
   | (with_reducible exact LeO.none _)
   | (with_reducible refine LeO.ite ?_ ?_)
   | (with_reducible refine LeO.bind ?_ (fun _ => ?_))
   | exact ih0 _ _
   | exact frame_Get.mono _ _
   | exact slices_Concat_byte_byte.mono _ _
   | exact LeO.none _
   | refine LeO.ite ?_ ?_
   | refine LeO.bind ?_ (fun _ => ?_)
set_option maxHeartbeats 8000000 in
set_option maxRecDepth 100000 in
theorem frame_Feed.calls (k : Nat) (P0_ : Nat → Prop) (A0 : Option Addr) (c0 : Nat) (l0 : List Int) (P1_ : Nat → Prop) (A1 : Option Addr) (c1 : Nat) (l1 : List Int) (r1 : List (List Int)) (r2 : List Int) (r3 : Int) (w : World) (hs0 : Kd.V (Kd.int .u8) 5 w w.heap.size (fun k_ => P0_ k_) (.slice A0 l0.length c0) l0) (hs1 : Kd.V (Kd.int .u8) 5 w w.heap.size (fun k_ => P1_ k_) (.slice A1 l1.length c1) l1) (h : frame_Feed.f k l0 l1 = some (r1, r2, r3)) :
  Calls Try.prog 26 #[.slice A0 l0.length c0, .slice A1 l1.length c1] w fun e w' => ∃ v0_ v1_ : Value, e = .returned (.tuple #[v0_, v1_, .int .i64 r3]) ∧ Kd.N (Kd.slice 5 (Kd.int .u8)) 22 w' w.heap.size (fun k_ => ((P0_ k_ ∨ P1_ k_) ∨ w.heap.size ≤ k_) ∧ some k_ ≠ (v1_ : Value).ownBlock) v0_ r1 ∧ Kd.R (Kd.int .u8) 5 w' w.heap.size (fun k_ => (w.heap.size ≤ k_)) v1_ r2 ∧ Below w.heap.size w w' := by
 have HO0 := Aside0.mk (show Kd.V (Kd.int .u8) 5 w w.heap.size (fun k_ => ((P0_ k_ ∨ P1_ k_) ∨ w.heap.size ≤ k_)) (.slice A0 l0.length c0) l0 from Kd.V_mono hs0 (fun k_ hk => .inl (.inl hk)))
 have HO1 := Aside0.mk (show Kd.V (Kd.int .u8) 5 w w.heap.size (fun k_ => ((P0_ k_ ∨ P1_ k_) ∨ w.heap.size ≤ k_)) (.slice A1 l1.length c1) l1 from Kd.V_mono hs1 (fun k_ hk => .inl (.inr hk)))
 have HB := Aside0.mk (Below.refl w.heap.size w)
 have H : (if (l0.length : Int) ≥ 1028 then (some (([] : List (List Int)), ([] : List Int), 10)) else ((slices_Concat_byte_byte.f k (([l0, l1] : List (List Int)))).bind fun t146 => (frame_Feed.l0 k t146 ([] : List (List Int))))) = some (r1, r2, r3) := h
 clear h
 by_cases c3 : (l0.length : Int) ≥ 1028
 ·rw [if_pos c3] at H
  have c3b0 : decide (1028 ≤ (l0.length : Int)) = true := decide_eq_true c3
  have c3b1 : decide (1028 ≤ l0.length) = true := decide_eq_true (by omega)
  clear c3
  simp only [Option.some.injEq, Prod.mk.injEq] at H
  obtain ⟨rfl, rfl, rfl⟩ := H
  go_enter Try.func26, Try.ntmps26
  go_wp2
  go_ret3
  exact ⟨_, _, by first | rfl | (simp [errW_none, errW_some] <;> rfl) | (simp [*, errW_none, errW_some] <;> rfl), by first | exact Kd.S_nil _ _ _ _ _ | exact Kd.N_nil _ _ _ _ _ | exact Kd.V_nil _ _ _ _ _ | exact Kd.Q_nil _ _ _ _ _ | exact Kd.R_nil _ _ _ _ _, by first | exact Kd.R_nil _ _ _ _ _ | exact Kd.N_nil _ _ _ _ _ | exact Kd.V_nil _ _ _ _ _ | exact Kd.Q_nil _ _ _ _ _ | exact Kd.S_nil _ _ _ _ _, by repeat (first | (with_reducible first | exact HB.out | apply below_alloc | apply pw_below_drewN | apply below_drew1) | exact HB.out)⟩
 ·rw [if_neg c3] at H
  have c3b0 : decide (1028 ≤ (l0.length : Int)) = false := decide_eq_false c3
  have c3b1 : decide (1028 ≤ l0.length) = false := decide_eq_false (by omega)
  clear c3
  obtain ⟨y143, hy143⟩ : ∃ y_ : List (List Int), y_ = (([l0, l1] : List (List Int))) := ⟨_, rfl⟩
  replace H : ((slices_Concat_byte_byte.f k y143).bind fun t146 => (frame_Feed.l0 k t146 ([] : List (List Int)))) = some (r1, r2, r3) := by first | (rw [hy143]; with_reducible exact H) | (have H2_ := (Option.bind_some _ _).symm.trans H; rw [hy143]; with_reducible exact H2_) | (have H2_ := (Option.bind_some _ _).symm.trans H; with_reducible exact H2_) | with_reducible exact H | (rw [hy143]; exact H) | exact H
  have Ny143 := Aside0.mk hy143
  clear hy143
  replace H := Option.bind_eq_some_iff.mp H
  obtain ⟨t146, A40, H⟩ := H
  replace H : (frame_Feed.l0 k t146 ([] : List (List Int))) = some (r1, r2, r3) := H
  have A4 := Aside0.mk A40
  clear A40
  have H' := Aside0.mk H
  clear H
  go_enter Try.func26, Try.ntmps26
  go_wp2_with (first | ((with_reducible refine gate_dst (N := 16) rfl ?_); refine Kd.N_lit (Kd.slice 5 (Kd.int .u8)) _ 22 ?hg (N' := 16) ?hd (xs := ([l0, l1] : List (List Int))) (inner := [.slice A0 l0.length c0, .slice A1 l1.length c1]) (ok := (fun k_ => ((P0_ k_ ∨ P1_ k_) ∨ w.heap.size ≤ k_))) (okp := (fun k_ => ((P0_ k_ ∨ P1_ k_) ∨ w.heap.size ≤ k_))) ?hr ?hp (fun _ hk => hk) ((show ∀ k_, w.heap.size ≤ k_ → (fun k_ => ((P0_ k_ ∨ P1_ k_) ∨ w.heap.size ≤ k_)) k_ from fun k_ hk => (.inr (Nat.le_trans (below_size (by repeat (first | (with_reducible first | exact HB.out | apply below_alloc | apply pw_below_drewN | apply below_drew1) | exact HB.out))) hk))) _ (Nat.le_refl _)) (Below.refl _ _) (Nat.le_refl _) (by simp) ?_; (case hd => rfl); (case hg => rfl); (case hr => first | (go_simp; done) | (go_simp; rfl)); (case hp => exact (Reps.one (show Kd.FK (Kd.slice 5 (Kd.int .u8)) _ _ l0 [.slice A0 l0.length c0] from (Kd.FK_slice_mk (Kd.V_reads' (Kd.V_mono (ok' := (fun k_ => ((P0_ k_ ∨ P1_ k_) ∨ w.heap.size ≤ k_))) (HO0.out) (fun k_ hk => hk))).2.1 (Kd.V_F (Kd.V_mono (ok' := (fun k_ => ((P0_ k_ ∨ P1_ k_) ∨ w.heap.size ≤ k_))) (HO0.out) (fun k_ hk => hk))))) (Reps.one (show Kd.FK (Kd.slice 5 (Kd.int .u8)) _ _ l1 [.slice A1 l1.length c1] from (Kd.FK_slice_mk (Kd.V_reads' (Kd.V_mono (ok' := (fun k_ => ((P0_ k_ ∨ P1_ k_) ∨ w.heap.size ≤ k_))) (HO1.out) (fun k_ hk => hk))).2.1 (Kd.V_F (Kd.V_mono (ok' := (fun k_ => ((P0_ k_ ∨ P1_ k_) ∨ w.heap.size ≤ k_))) (HO1.out) (fun k_ hk => hk))))) (Reps.none _ _)))); intro v144 w5 ho6 hb hg_ hnew_; clear hg_ hnew_; (first | rw [← Ny143.out] at ho6 | (simp only [Int.reduceToNat] at ho6; rw [← Ny143.out] at ho6)); have n0_ := Aside0.mk (Kd.V_elder' (by (with_reducible repeat (first | apply Kd.V_alloc | apply Kd.V_drewN | apply Kd.V_drew)); exact HO0.out) (Kd.N_base ho6) hb); have n1_ := Aside0.mk (Kd.V_elder' (by (with_reducible repeat (first | apply Kd.V_alloc | apply Kd.V_drewN | apply Kd.V_drew)); exact HO1.out) (Kd.N_base ho6) hb); have n2_ := Aside0.mk (Kd.N_lower ho6 (below_size (by repeat (first | (with_reducible first | exact HB.out | apply below_alloc | apply pw_below_drewN | apply below_drew1) | exact HB.out)))); have n3_ := Aside0.mk (below_step (by repeat (first | (with_reducible first | exact HB.out | apply below_alloc | apply pw_below_drewN | apply below_drew1) | exact HB.out)) hb); clear HO0; clear HO1; clear HB; have HO0 := n0_; have HO1 := n1_; have HO145 := n2_; have HB := n3_; clear n0_ n1_ n2_ n3_; clear hb ho6; obtain ⟨Ao7, co7, eo7⟩ := Kd.N_slice HO145.out; subst eo7) | ((with_reducible refine gate_callee (f := 34) rfl ?_); refine goesL_ (some 17) rfl rfl Try.func34 (by kernel_rfl) rfl #[.slice Ao7 y143.length co7] rfl (by (try simp only [List.map_toArray, List.map_cons, List.map_nil]); first | done | rfl) ?_; (with_reducible refine (slices_Concat_byte_byte.calls k _ _ y143 t146 _ ?side1 ?side2 A4.out).mono ?_); (case side1 => repeat (first | exact (Kd.N_reads' HO145.out).2.2 | (with_reducible refine Kd.C_alloc ?_ _) | (with_reducible refine Kd.C_drewN ?_ _) | (with_reducible refine Kd.C_drew ?_))); (case side2 => exact (Kd.N_reads' HO145.out).2.1); rintro e w8 ⟨v147, rfl, ho0, hb⟩; refine ⟨_, rfl, ?_⟩; have n0_ := Aside0.mk (Kd.V_elder' (by (with_reducible repeat (first | apply Kd.V_alloc | apply Kd.V_drewN | apply Kd.V_drew)); exact HO0.out) (Kd.R_base ho0) hb); have n1_ := Aside0.mk (Kd.V_elder' (by (with_reducible repeat (first | apply Kd.V_alloc | apply Kd.V_drewN | apply Kd.V_drew)); exact HO1.out) (Kd.R_base ho0) hb); have n2_ := Aside0.mk (Kd.N_elder' (by (with_reducible repeat (first | apply Kd.N_alloc | apply Kd.N_drewN | apply Kd.N_drew)); exact HO145.out) (Kd.R_base ho0) hb); have n3_ := Aside0.mk (Kd.R_lower (Kd.R_newM (M := fun k_ => (w.heap.size ≤ k_)) ho0 (below_size (by repeat (first | (with_reducible first | exact HB.out | apply below_alloc | apply pw_below_drewN | apply below_drew1) | exact HB.out))) (fun k_ h_ => h_)) (below_size (by repeat (first | (with_reducible first | exact HB.out | apply below_alloc | apply pw_below_drewN | apply below_drew1) | exact HB.out)))); have n4_ := Aside0.mk (below_step (by repeat (first | (with_reducible first | exact HB.out | apply below_alloc | apply pw_below_drewN | apply below_drew1) | exact HB.out)) hb); clear HO0; clear HO1; clear HO145; clear HB; have HO0 := n0_; have HO1 := n1_; have HO145 := n2_; have HO148 := n3_; have HB := n4_; clear n0_ n1_ n2_ n3_ n4_; (try clear hb); (try clear hb2); (try clear hk); (try clear hi); (try clear ho0)))
  go_loopg [7, 8] k (fun kq v7 v8 w' => ∃ (x7_1 : List Int) (x8_1 : List (List Int)), Aside0 (frame_Feed.l0 kq x7_1 x8_1 = some (r1, r2, r3)) ∧ Aside0 (kq ≤ k) ∧ Aside0 (Kd.Q (Kd.int .u8) 5 w' w.heap.size (fun k_ => (w.heap.size ≤ k_)) v7 x7_1) ∧ Aside0 (Kd.N (Kd.slice 5 (Kd.int .u8)) 22 w' w.heap.size (fun k_ => ((P0_ k_ ∨ P1_ k_) ∨ w.heap.size ≤ k_) ∧ some k_ ≠ (v7 : Value).ownBlock) v8 x8_1) ∧ Aside0 (Below w.heap.size w w'))
  case atStart => exact ⟨(t146), (([] : List (List Int))), H', ⟨Nat.le_refl _⟩, ⟨Kd.Q_of_R (by (with_reducible repeat (first | apply Kd.R_alloc | apply Kd.R_drewN | apply Kd.R_drew)); exact Kd.R_mono HO148.out (fun _ hk => by first | exact hk.1 | (and_intros <;> first | exact hk | exact hk.1 | exact hk.2 | exact hk.1.1 | exact hk.1.2 | exact hk.2.1 | exact hk.2.2 | exact hk.1.1.1 | exact hk.1.1.2 | exact hk.2.2.1 | exact hk.2.2.2)))⟩, ⟨by first | exact Kd.S_nil _ _ _ _ _ | exact Kd.N_nil _ _ _ _ _ | exact Kd.V_nil _ _ _ _ _ | exact Kd.Q_nil _ _ _ _ _ | exact Kd.R_nil _ _ _ _ _⟩, ⟨by repeat (first | (with_reducible first | exact HB.out | apply below_alloc | apply pw_below_drewN | apply below_drew1) | exact HB.out)⟩⟩
  case round =>
   clear H'
   try clear c1
   try clear c2
   try clear p2
   try clear c3
   try clear c3b0
   try clear c3b1
   obtain ⟨x7_1, x8_1, HA, HK1, HO_7, HO_8, HB⟩ := hrel
   cases gk with
   | zero => exact absurd HA.out (by simp [frame_Feed.l0])
   | succ k1 =>
    have H := HA.out
    clear HA
    simp only [frame_Feed.l0] at H
    by_cases c9 : (x7_1.length : Int) ≥ 4
    ·rw [if_pos c9] at H
     have c9b0 : decide (4 ≤ (x7_1.length : Int)) = true := decide_eq_true c9
     have c9b1 : decide (4 ≤ x7_1.length) = true := decide_eq_true (by omega)
     clear c9
     by_cases c10 : 4 ≤ (x7_1.length : Int)
     ·rw [if_pos c10] at H
      have c10b0 := eq_true c10
      have c10b1 : decide (4 ≤ (x7_1.length : Int)) = true := decide_eq_true c10
      clear c10
      obtain ⟨y152, hy152⟩ : ∃ y_ : List Int, y_ = (x7_1.take 4) := ⟨_, rfl⟩
      replace H : ((frame_Get.f k1 y152).bind fun t156 => (if t156 > 1024 then (some (([] : List (List Int)), ([] : List Int), 1)) else (if (x7_1.length : Int) < (wrap64 (4 + t156)) then ((slices_Clone_byte_byte.f x7_1).bind fun t157 => (some (x8_1, t157, 0))) else (if 4 ≤ (wrap64 (4 + t156)) then (if (wrap64 (4 + t156)) ≤ (x7_1.length : Int) then ((slices_Clone_byte_byte.f ((x7_1.take ((wrap64 (4 + t156)) : Int).toNat).drop 4)).bind fun t164 => (if x8_1.length < 5864062014805 then (if 0 ≤ (wrap64 (4 + t156)) then (frame_Feed.l0 k1 (x7_1.drop ((wrap64 (4 + t156)) : Int).toNat) (x8_1 ++ [t164])) else (none)) else (none))) else (none)) else (none))))) = some (r1, r2, r3) := by first | (rw [hy152]; with_reducible exact H) | (have H2_ := (Option.bind_some _ _).symm.trans H; rw [hy152]; with_reducible exact H2_) | (have H2_ := (Option.bind_some _ _).symm.trans H; with_reducible exact H2_) | with_reducible exact H | (rw [hy152]; exact H) | exact H
      have Ny152 := Aside0.mk hy152
      clear hy152
      replace H := Option.bind_eq_some_iff.mp H
      obtain ⟨t156, A110, H⟩ := H
      replace H : (if t156 > 1024 then (some (([] : List (List Int)), ([] : List Int), 1)) else (if (x7_1.length : Int) < (wrap64 (4 + t156)) then ((slices_Clone_byte_byte.f x7_1).bind fun t157 => (some (x8_1, t157, 0))) else (if 4 ≤ (wrap64 (4 + t156)) then (if (wrap64 (4 + t156)) ≤ (x7_1.length : Int) then ((slices_Clone_byte_byte.f ((x7_1.take ((wrap64 (4 + t156)) : Int).toNat).drop 4)).bind fun t164 => (if x8_1.length < 5864062014805 then (if 0 ≤ (wrap64 (4 + t156)) then (frame_Feed.l0 k1 (x7_1.drop ((wrap64 (4 + t156)) : Int).toNat) (x8_1 ++ [t164])) else (none)) else (none))) else (none)) else (none)))) = some (r1, r2, r3) := H
      have A11 := Aside0.mk A110
      clear A110
      by_cases c12 : t156 > 1024
      ·rw [if_pos c12] at H
       have c12b0 : decide (1024 < t156) = true := decide_eq_true c12
       clear c12
       simp only [Option.some.injEq, Prod.mk.injEq] at H
       obtain ⟨rfl, rfl, rfl⟩ := H
       obtain ⟨Ao13, co13, eo13, _⟩ := Kd.Q_slice HO_7.out
       subst eo13
       have q14 : (4 : Int) ≤ ((x7_1.length : Int) : Int) := of_decide_eq_true (by first | (with_reducible assumption) | assumption)
       obtain ⟨i014, hi014, _, hsz14, _⟩ := info_parts info5
       have hroom14 : x7_1.length ≤ co13 := (Kd.Q_reads' HO_7.out).2.1
       have hC14 : Kd.C (Kd.int .u8) _ Ao13 x7_1.length x7_1 := (Kd.Q_reads' HO_7.out).2.2
       have hcut14 := cut_to (P := Try.prog) 22 5 .i64 Try.underlying22 hi014 Ao13 x7_1.length co13 4 (by omega) q14 hroom14
       have hr14 := Kd.C_take (m := 4) hC14 (by omega)
       have hy14 : y152.length = (4 : Int).toNat := (by rw [Ny152.out, List.length_take]; omega)
       rw [← Ny152.out] at hr14
       rw [← hy14] at hcut14
       have HR155 := Aside0.mk hr14
       have HC155 := Aside0.mk (show y152.length ≤ co13 from by omega)
       clear hr14 hC14 hroom14 hi014 hsz14
       have KY14 := Aside0.mk hy14
       clear hy14
       have KL14 := Aside0.mk (show 4 ≤ x7_1.length from by omega)
       replace q14 := eq_true q14
       go_wp2_with (first | ((with_reducible refine gate_callee (f := 35) rfl ?_); refine goesL_ (some 23) rfl rfl Try.func35 (by kernel_rfl) rfl #[.slice Ao13 y152.length co13] rfl (by (try simp only [List.map_toArray, List.map_cons, List.map_nil]); first | done | rfl) ?_; (with_reducible refine (frame_Get.calls k1 _ _ y152 t156 _ ?side1 ?side2 A11.out).mono ?_); (case side1 => repeat (first | exact (by repeat (first | (with_reducible exact HR155.out) | (with_reducible refine Kd.C_alloc ?_ _) | (with_reducible refine Kd.C_drewN ?_ _) | (with_reducible refine Kd.C_drew ?_) | exact HR155.out)) | (with_reducible refine Kd.C_alloc ?_ _) | (with_reducible refine Kd.C_drewN ?_ _) | (with_reducible refine Kd.C_drew ?_))); (case side2 => exact HC155.out); rintro e w' ⟨rfl, ⟨nd, rfl⟩⟩; refine ⟨_, rfl, ?_⟩))
       go_ret3
       exact ⟨_, _, by first | rfl | (simp [errW_none, errW_some] <;> rfl) | (simp [*, errW_none, errW_some] <;> rfl), by first | exact Kd.S_nil _ _ _ _ _ | exact Kd.N_nil _ _ _ _ _ | exact Kd.V_nil _ _ _ _ _ | exact Kd.Q_nil _ _ _ _ _ | exact Kd.R_nil _ _ _ _ _, by first | exact Kd.R_nil _ _ _ _ _ | exact Kd.N_nil _ _ _ _ _ | exact Kd.V_nil _ _ _ _ _ | exact Kd.Q_nil _ _ _ _ _ | exact Kd.S_nil _ _ _ _ _, by repeat (first | (with_reducible first | exact HB.out | apply below_alloc | apply pw_below_drewN | apply below_drew1) | exact HB.out)⟩
      ·rw [if_neg c12] at H
       have c12b0 : decide (1024 < t156) = false := decide_eq_false c12
       clear c12
       by_cases c15 : (x7_1.length : Int) < (wrap64 (4 + t156))
       ·rw [if_pos c15] at H
        have c15b0 : decide ((x7_1.length : Int) < (wrap64 (4 + t156))) = true := decide_eq_true c15
        clear c15
        replace H := Option.bind_eq_some_iff.mp H
        obtain ⟨t157, A160, H⟩ := H
        replace H : (some (x8_1, t157, 0)) = some (r1, r2, r3) := H
        have A16 := Aside0.mk A160
        clear A160
        simp only [Option.some.injEq, Prod.mk.injEq] at H
        obtain ⟨rfl, rfl, rfl⟩ := H
        obtain ⟨Ao17, co17, eo17, _⟩ := Kd.Q_slice HO_7.out
        subst eo17
        have q18 : (4 : Int) ≤ ((x7_1.length : Int) : Int) := of_decide_eq_true (by first | (with_reducible assumption) | assumption)
        obtain ⟨i018, hi018, _, hsz18, _⟩ := info_parts info5
        have hroom18 : x7_1.length ≤ co17 := (Kd.Q_reads' HO_7.out).2.1
        have hC18 : Kd.C (Kd.int .u8) _ Ao17 x7_1.length x7_1 := (Kd.Q_reads' HO_7.out).2.2
        have hcut18 := cut_to (P := Try.prog) 22 5 .i64 Try.underlying22 hi018 Ao17 x7_1.length co17 4 (by omega) q18 hroom18
        have hr18 := Kd.C_take (m := 4) hC18 (by omega)
        have hy18 : y152.length = (4 : Int).toNat := (by rw [Ny152.out, List.length_take]; omega)
        rw [← Ny152.out] at hr18
        rw [← hy18] at hcut18
        have HR155 := Aside0.mk hr18
        have HC155 := Aside0.mk (show y152.length ≤ co17 from by omega)
        clear hr18 hC18 hroom18 hi018 hsz18
        have KY18 := Aside0.mk hy18
        clear hy18
        have KL18 := Aside0.mk (show 4 ≤ x7_1.length from by omega)
        replace q18 := eq_true q18
        go_wp2_with (first | ((with_reducible refine gate_callee (f := 35) rfl ?_); refine goesL_ (some 23) rfl rfl Try.func35 (by kernel_rfl) rfl #[.slice Ao17 y152.length co17] rfl (by (try simp only [List.map_toArray, List.map_cons, List.map_nil]); first | done | rfl) ?_; (with_reducible refine (frame_Get.calls k1 _ _ y152 t156 _ ?side1 ?side2 A11.out).mono ?_); (case side1 => repeat (first | exact (by repeat (first | (with_reducible exact HR155.out) | (with_reducible refine Kd.C_alloc ?_ _) | (with_reducible refine Kd.C_drewN ?_ _) | (with_reducible refine Kd.C_drew ?_) | exact HR155.out)) | (with_reducible refine Kd.C_alloc ?_ _) | (with_reducible refine Kd.C_drewN ?_ _) | (with_reducible refine Kd.C_drew ?_))); (case side2 => exact HC155.out); rintro e w' ⟨rfl, ⟨nd, rfl⟩⟩; refine ⟨_, rfl, ?_⟩) | ((with_reducible refine gate_callee (f := 30) rfl ?_); refine goesL_ (some 44) rfl rfl Try.func30 (by kernel_rfl) rfl #[.slice Ao17 x7_1.length co17] rfl (by (try simp only [List.map_toArray, List.map_cons, List.map_nil]); first | done | rfl) ?_; (with_reducible refine (slices_Clone_byte_byte.calls _ _ x7_1 t157 _ ?side1 ?side2 A16.out).mono ?_); (case side1 => repeat (first | exact (Kd.Q_reads' HO_7.out).2.2 | (with_reducible refine Kd.C_alloc ?_ _) | (with_reducible refine Kd.C_drewN ?_ _) | (with_reducible refine Kd.C_drew ?_))); (case side2 => exact (Kd.Q_reads' HO_7.out).2.1); rintro e w19 ⟨v158, rfl, ho0, hb⟩; refine ⟨_, rfl, ?_⟩; have n0_ := Aside0.mk (Kd.Q_elder' (by (with_reducible repeat (first | apply Kd.Q_alloc | apply Kd.Q_drewN | apply Kd.Q_drew)); exact HO_7.out) (Kd.R_base ho0) hb); have n1_ := Aside0.mk (Kd.N_elder' (by (with_reducible repeat (first | apply Kd.N_alloc | apply Kd.N_drewN | apply Kd.N_drew)); exact HO_8.out) (Kd.R_base ho0) hb); have n2_ := Aside0.mk (Kd.R_lower (Kd.R_new' (Kd.R_newM (M := fun k_ => (w.heap.size ≤ k_)) ho0 (below_size (by repeat (first | (with_reducible first | exact HB.out | apply below_alloc | apply pw_below_drewN | apply below_drew1) | exact HB.out))) (fun k_ h_ => h_)) (Kd.Q_lt (by (with_reducible repeat (first | apply Kd.Q_alloc | apply Kd.Q_drewN | apply Kd.Q_drew)); exact HO_7.out))) (below_size (by repeat (first | (with_reducible first | exact HB.out | apply below_alloc | apply pw_below_drewN | apply below_drew1) | exact HB.out)))); have n3_ := Aside0.mk (Kd.C_below (by repeat (first | (with_reducible exact HR155.out) | (with_reducible refine Kd.C_alloc ?_ _) | (with_reducible refine Kd.C_drewN ?_ _) | (with_reducible refine Kd.C_drew ?_) | exact HR155.out)) hb); have n4_ := Aside0.mk (below_step (by repeat (first | (with_reducible first | exact HB.out | apply below_alloc | apply pw_below_drewN | apply below_drew1) | exact HB.out)) hb); clear HO_7; clear HO_8; clear HR155; clear HB; have HO_7 := n0_; have HO_8 := n1_; have HO159 := n2_; have HR155 := n3_; have HB := n4_; clear n0_ n1_ n2_ n3_ n4_; (try clear hb); (try clear hb2); (try clear hk); (try clear hi); (try clear ho0)))
        go_ret3
        exact ⟨_, _, by first | rfl | (simp [errW_none, errW_some] <;> rfl) | (simp [*, errW_none, errW_some] <;> rfl), by (with_reducible repeat (first | apply Kd.N_alloc | apply Kd.N_drewN | apply Kd.N_drew)); exact Kd.N_mono HO_8.out (fun _ hk => by first | exact ⟨hk.1.1, hk.2⟩ | (and_intros <;> first | exact hk | exact hk.1 | exact hk.2 | exact hk.1.1 | exact hk.1.2 | exact hk.2.1 | exact hk.2.2 | exact hk.1.1.1 | exact hk.1.1.2 | exact hk.2.2.1 | exact hk.2.2.2)), by (with_reducible repeat (first | apply Kd.R_alloc | apply Kd.R_drewN | apply Kd.R_drew)); exact Kd.R_mono HO159.out (fun _ hk => by first | exact hk.1.1 | (and_intros <;> first | exact hk | exact hk.1 | exact hk.2 | exact hk.1.1 | exact hk.1.2 | exact hk.2.1 | exact hk.2.2 | exact hk.1.1.1 | exact hk.1.1.2 | exact hk.2.2.1 | exact hk.2.2.2)), by repeat (first | (with_reducible first | exact HB.out | apply below_alloc | apply pw_below_drewN | apply below_drew1) | exact HB.out)⟩
       ·rw [if_neg c15] at H
        have c15b0 : decide ((x7_1.length : Int) < (wrap64 (4 + t156))) = false := decide_eq_false c15
        clear c15
        by_cases c20 : 4 ≤ (wrap64 (4 + t156))
        ·rw [if_pos c20] at H
         have c20b0 := eq_true c20
         have c20b1 : decide (4 ≤ (wrap64 (4 + t156))) = true := decide_eq_true c20
         by_cases c21 : (wrap64 (4 + t156)) ≤ (x7_1.length : Int)
         ·rw [if_pos c21] at H
          have c21b0 := eq_true c21
          have c21b1 : decide ((wrap64 (4 + t156)) ≤ (x7_1.length : Int)) = true := decide_eq_true c21
          obtain ⟨y160, hy160⟩ : ∃ y_ : List Int, y_ = ((x7_1.take ((wrap64 (4 + t156)) : Int).toNat).drop 4) := ⟨_, rfl⟩
          replace H : ((slices_Clone_byte_byte.f y160).bind fun t164 => (if x8_1.length < 5864062014805 then (if 0 ≤ (wrap64 (4 + t156)) then (frame_Feed.l0 k1 (x7_1.drop ((wrap64 (4 + t156)) : Int).toNat) (x8_1 ++ [t164])) else (none)) else (none))) = some (r1, r2, r3) := by first | (rw [hy160]; with_reducible exact H) | (have H2_ := (Option.bind_some _ _).symm.trans H; rw [hy160]; with_reducible exact H2_) | (have H2_ := (Option.bind_some _ _).symm.trans H; with_reducible exact H2_) | with_reducible exact H | (rw [hy160]; exact H) | exact H
          have Ny160 := Aside0.mk hy160
          clear hy160
          replace H := Option.bind_eq_some_iff.mp H
          obtain ⟨t164, A220, H⟩ := H
          replace H : (if x8_1.length < 5864062014805 then (if 0 ≤ (wrap64 (4 + t156)) then (frame_Feed.l0 k1 (x7_1.drop ((wrap64 (4 + t156)) : Int).toNat) (x8_1 ++ [t164])) else (none)) else (none)) = some (r1, r2, r3) := H
          have A22 := Aside0.mk A220
          clear A220
          by_cases c23 : x8_1.length < 5864062014805
          ·rw [if_pos c23] at H
           have LMc23 := Aside0.mk c23
           clear c23
           obtain ⟨y167, hy167⟩ : ∃ y_ : List (List Int), y_ = (x8_1 ++ [t164]) := ⟨_, rfl⟩
           replace H : (if 0 ≤ (wrap64 (4 + t156)) then (frame_Feed.l0 k1 (x7_1.drop ((wrap64 (4 + t156)) : Int).toNat) y167) else (none)) = some (r1, r2, r3) := by first | (rw [hy167]; with_reducible exact H) | (have H2_ := (Option.bind_some _ _).symm.trans H; rw [hy167]; with_reducible exact H2_) | (have H2_ := (Option.bind_some _ _).symm.trans H; with_reducible exact H2_) | with_reducible exact H | (rw [hy167]; exact H) | exact H
           have Ny167 := Aside0.mk hy167
           clear hy167
           obtain ⟨ji24, hji24⟩ : ∃ j_ : Int, (wrap64 (4 + t156)) = j_ := ⟨_, rfl⟩
           replace H : (if 0 ≤ (ji24) then (frame_Feed.l0 k1 (x7_1.drop ((ji24) : Int).toNat) y167) else (none)) = some (r1, r2, r3) := by first | (rw [hji24] at H; exact H) | (simp only [hji24] at H ⊢; exact H)
           (try rw [hji24] at c15b0)
           (try rw [hji24] at c20b0)
           (try rw [hji24] at c20b1)
           (try rw [hji24] at c20)
           (try rw [hji24] at c21b0)
           (try rw [hji24] at c21b1)
           (try rw [hji24] at c21)
           (try rw [hji24] at A11)
           (try rw [hji24] at Ny160)
           (try rw [hji24] at A22)
           have hji24w : (IntKind.i64.wrap (4 + t156)) = ji24 := (i64_w _).trans hji24
           by_cases c25 : 0 ≤ (ji24)
           ·rw [if_pos c25] at H
            have c25b0 := eq_true c25
            have c25b1 : decide (0 ≤ (ji24)) = true := decide_eq_true c25
            clear c25
            have c26b0 := eq_true (of_decide_eq_true (by first | (with_reducible assumption) | assumption) : (ji24) ≤ (x7_1.length : Int))
            obtain ⟨y170, hy170⟩ : ∃ y_ : List Int, y_ = (x7_1.drop ((ji24) : Int).toNat) := ⟨_, rfl⟩
            replace H : (frame_Feed.l0 k1 y170 y167) = some (r1, r2, r3) := by first | (rw [hy170]; with_reducible exact H) | (have H2_ := (Option.bind_some _ _).symm.trans H; rw [hy170]; with_reducible exact H2_) | (have H2_ := (Option.bind_some _ _).symm.trans H; with_reducible exact H2_) | with_reducible exact H | (rw [hy170]; exact H) | exact H
            have Ny170 := Aside0.mk hy170
            clear hy170
            have H' := Aside0.mk H
            clear H
            obtain ⟨Ao27, co27, eo27, _⟩ := Kd.Q_slice HO_7.out
            subst eo27
            have q28 : (4 : Int) ≤ ((x7_1.length : Int) : Int) := of_decide_eq_true (by first | (with_reducible assumption) | assumption)
            obtain ⟨i028, hi028, _, hsz28, _⟩ := info_parts info5
            have hroom28 : x7_1.length ≤ co27 := (Kd.Q_reads' HO_7.out).2.1
            have hC28 : Kd.C (Kd.int .u8) _ Ao27 x7_1.length x7_1 := (Kd.Q_reads' HO_7.out).2.2
            have hcut28 := cut_to (P := Try.prog) 22 5 .i64 Try.underlying22 hi028 Ao27 x7_1.length co27 4 (by omega) q28 hroom28
            have hr28 := Kd.C_take (m := 4) hC28 (by omega)
            have hy28 : y152.length = (4 : Int).toNat := (by rw [Ny152.out, List.length_take]; omega)
            rw [← Ny152.out] at hr28
            rw [← hy28] at hcut28
            have HR155 := Aside0.mk hr28
            have HC155 := Aside0.mk (show y152.length ≤ co27 from by omega)
            clear hr28 hC28 hroom28 hi028 hsz28
            have KY28 := Aside0.mk hy28
            clear hy28
            have KL28 := Aside0.mk (show 4 ≤ x7_1.length from by omega)
            replace q28 := eq_true q28
            go_wp2_with (first | ((with_reducible refine gate_callee (f := 35) rfl ?_); refine goesL_ (some 23) rfl rfl Try.func35 (by kernel_rfl) rfl #[.slice Ao27 y152.length co27] rfl (by (try simp only [List.map_toArray, List.map_cons, List.map_nil]); first | done | rfl) ?_; (with_reducible refine (frame_Get.calls k1 _ _ y152 t156 _ ?side1 ?side2 A11.out).mono ?_); (case side1 => repeat (first | exact (by repeat (first | (with_reducible exact HR155.out) | (with_reducible refine Kd.C_alloc ?_ _) | (with_reducible refine Kd.C_drewN ?_ _) | (with_reducible refine Kd.C_drew ?_) | exact HR155.out)) | (with_reducible refine Kd.C_alloc ?_ _) | (with_reducible refine Kd.C_drewN ?_ _) | (with_reducible refine Kd.C_drew ?_))); (case side2 => exact HC155.out); rintro e w' ⟨rfl, ⟨nd, rfl⟩⟩; refine ⟨_, rfl, ?_⟩; have q29 : ((ji24) : Int) ≤ ((x7_1.length : Int) : Int) := of_decide_eq_true (by first | (with_reducible assumption) | assumption); obtain ⟨i029, hi029, _, hsz29, _⟩ := info_parts info5; have hroom29 : x7_1.length ≤ co27 := (Kd.Q_reads' HO_7.out).2.1; have hC29 : Kd.C (Kd.int .u8) _ Ao27 x7_1.length x7_1 := (Kd.Q_reads' HO_7.out).2.2; have ql29 : (4 : Int) ≤ ((ji24) : Int) := of_decide_eq_true (by first | (with_reducible assumption) | assumption); have hcut29 := cut_mid (P := Try.prog) 22 5 .i64 .i64 Try.underlying22 hi029 1 hsz29 Ao27 x7_1.length co27 4 (ji24) (by omega) ql29 q29 hroom29; have hr29 := Kd.C_mid (lo := (4 : Int).toNat) (hi := ((ji24) : Int).toNat) (c := co27) hC29 (by omega) (by omega) hroom29; obtain ⟨A29, hA29⟩ : ∃ A1, A1 = (if co27 = (4 : Int).toNat then Ao27 else (Ao27 : Option Addr).map (·.add ((4 : Int).toNat * 1))) := ⟨_, rfl⟩; obtain ⟨c29, hc29⟩ : ∃ c1, c1 = co27 - (4 : Int).toNat := ⟨_, rfl⟩; have hy29 : y160.length = ((ji24) : Int).toNat - (4 : Int).toNat := (by rw [Ny160.out, List.length_drop, List.length_take] <;> omega); rw [show ((x7_1).take ((ji24) : Int).toNat).drop (4 : Int).toNat = y160 from Ny160.out.symm] at hr29; replace hr29 : Kd.C (Kd.int .u8) _ A29 y160.length y160 := (by rw [hA29]; exact hr29); rw [← hy29, ← hA29, ← hc29] at hcut29; have HR163 := Aside0.mk hr29; have HC163 := Aside0.mk (show y160.length ≤ c29 from by rw [hy29, hc29]; exact Nat.sub_le_sub_right (Nat.le_trans (by omega) hroom29) _); clear hr29 hC29 hroom29 hi029 hsz29 hc29; have KY29 := Aside0.mk hy29; have KA29 := Aside0.mk hA29; clear hy29 hA29; have KL29 := Aside0.mk (show ((ji24) : Int).toNat ≤ x7_1.length from by omega); have KM29 := Aside0.mk (show 4 ≤ ((ji24) : Int).toNat from by omega); replace q29 := eq_true q29) | ((with_reducible refine gate_callee (f := 30) rfl ?_); refine goesL_ (some 36) rfl rfl Try.func30 (by kernel_rfl) rfl #[.slice A29 y160.length c29] rfl (by (try simp only [List.map_toArray, List.map_cons, List.map_nil]); first | done | rfl) ?_; (with_reducible refine (slices_Clone_byte_byte.calls _ _ y160 t164 _ ?side1 ?side2 A22.out).mono ?_); (case side1 => repeat (first | exact (by repeat (first | (with_reducible exact HR163.out) | (with_reducible refine Kd.C_alloc ?_ _) | (with_reducible refine Kd.C_drewN ?_ _) | (with_reducible refine Kd.C_drew ?_) | exact HR163.out)) | (with_reducible refine Kd.C_alloc ?_ _) | (with_reducible refine Kd.C_drewN ?_ _) | (with_reducible refine Kd.C_drew ?_))); (case side2 => exact HC163.out); rintro e w30 ⟨v165, rfl, ho0, hb⟩; refine ⟨_, rfl, ?_⟩; have n0_ := Aside0.mk (Kd.Q_elder' (by (with_reducible repeat (first | apply Kd.Q_alloc | apply Kd.Q_drewN | apply Kd.Q_drew)); exact HO_7.out) (Kd.R_base ho0) hb); have n1_ := Aside0.mk (Kd.N_elder' (by (with_reducible repeat (first | apply Kd.N_alloc | apply Kd.N_drewN | apply Kd.N_drew)); exact HO_8.out) (Kd.R_base ho0) hb); have n2_ := Aside0.mk (Kd.R_lower (Kd.R_new' (Kd.R_newM (M := fun k_ => (w.heap.size ≤ k_)) ho0 (below_size (by repeat (first | (with_reducible first | exact HB.out | apply below_alloc | apply pw_below_drewN | apply below_drew1) | exact HB.out))) (fun k_ h_ => h_)) (Kd.Q_lt (by (with_reducible repeat (first | apply Kd.Q_alloc | apply Kd.Q_drewN | apply Kd.Q_drew)); exact HO_7.out))) (below_size (by repeat (first | (with_reducible first | exact HB.out | apply below_alloc | apply pw_below_drewN | apply below_drew1) | exact HB.out)))); have n3_ := Aside0.mk (Kd.C_below (by repeat (first | (with_reducible exact HR155.out) | (with_reducible refine Kd.C_alloc ?_ _) | (with_reducible refine Kd.C_drewN ?_ _) | (with_reducible refine Kd.C_drew ?_) | exact HR155.out)) hb); have n4_ := Aside0.mk (Kd.C_below (by repeat (first | (with_reducible exact HR163.out) | (with_reducible refine Kd.C_alloc ?_ _) | (with_reducible refine Kd.C_drewN ?_ _) | (with_reducible refine Kd.C_drew ?_) | exact HR163.out)) hb); have n5_ := Aside0.mk (below_step (by repeat (first | (with_reducible first | exact HB.out | apply below_alloc | apply pw_below_drewN | apply below_drew1) | exact HB.out)) hb); clear HO_7; clear HO_8; clear HR155; clear HR163; clear HB; have HO_7 := n0_; have HO_8 := n1_; have HO166 := n2_; have HR155 := n3_; have HR163 := n4_; have HB := n5_; clear n0_ n1_ n2_ n3_ n4_ n5_; (try clear hb); (try clear hb2); (try clear hk); (try clear hi); (try clear ho0); obtain ⟨Ao32, co32, eo32⟩ := Kd.R_slice HO166.out; subst eo32) | ((with_reducible refine gate_builtin (b := .append) (xs := #[.tmp 32, .tmp 37]) rfl ?_); at_builtin; refine Kd.N_append (Kd.slice 5 (Kd.int .u8)) (w0 := w) w.heap.size rfl (.tmp 32) (.tmp 37) 51 22 (.slice none 0 0) 24 rfl Try.underlying51 info22 rfl (by decide) (by omega) u8 x8_1 t164 [.slice Ao32 t164.length co32] (fun k_ => ((P0_ k_ ∨ P1_ k_) ∨ w.heap.size ≤ k_) ∧ some k_ ≠ (.slice Ao27 x7_1.length co27 : Value).ownBlock) (fun k_ => ((fun k_ => ((P0_ k_ ∨ P1_ k_) ∨ w.heap.size ≤ k_) ∧ some k_ ≠ (.slice Ao27 x7_1.length co27 : Value).ownBlock)) k_ ∧ some k_ ≠ (u8 : Value).ownBlock) rfl rfl ?aP (fun _ hk => hk) ?aF ?aO ?aB ?aS ?aL ?_; (case aP => exact (Kd.FK_slice_mk (Kd.R_reads' (Kd.R_mono (ok' := (fun k_ => ((fun k_ => ((P0_ k_ ∨ P1_ k_) ∨ w.heap.size ≤ k_) ∧ some k_ ≠ (.slice Ao27 x7_1.length co27 : Value).ownBlock)) k_ ∧ some k_ ≠ (u8 : Value).ownBlock)) (Kd.R_apart' (HO166.out) (Kd.N_typed HO_8.out) (by decide)) (fun k_ hk => ⟨⟨(.inr (hk.1.1.1)), hk.1.2⟩, hk.2⟩))).2.1 (Kd.R_F (Kd.R_mono (ok' := (fun k_ => ((fun k_ => ((P0_ k_ ∨ P1_ k_) ∨ w.heap.size ≤ k_) ∧ some k_ ≠ (.slice Ao27 x7_1.length co27 : Value).ownBlock)) k_ ∧ some k_ ≠ (u8 : Value).ownBlock)) (Kd.R_apart' (HO166.out) (Kd.N_typed HO_8.out) (by decide)) (fun k_ hk => ⟨⟨(.inr (hk.1.1.1)), hk.1.2⟩, hk.2⟩))))); (case aB => exact (by repeat (first | (with_reducible first | exact HB.out | apply below_alloc | apply pw_below_drewN | apply below_drew1) | exact HB.out))); (case aF => exact (fun k_ hk => ⟨(.inr (Nat.le_trans (below_size (by repeat (first | (with_reducible first | exact HB.out | apply below_alloc | apply pw_below_drewN | apply below_drew1) | exact HB.out))) hk)), Kd.fresh' (Kd.Q_lt (by (with_reducible repeat (first | apply Kd.Q_alloc | apply Kd.Q_drewN | apply Kd.Q_drew)); exact HO_7.out)) k_ hk⟩)); (case aO => exact (by (with_reducible repeat (first | apply Kd.N_alloc | apply Kd.N_drewN | apply Kd.N_drew)); exact Kd.N_mono HO_8.out (fun _ hk => by first | exact ⟨hk.1.1, hk.1.2⟩ | (and_intros <;> first | exact hk | exact hk.1 | exact hk.2 | exact hk.1.1 | exact hk.1.2 | exact hk.2.1 | exact hk.2.2 | exact hk.1.1.1 | exact hk.1.1.2 | exact hk.2.2.1 | exact hk.2.2.2)))); (case aS => exact (below_size (by repeat (first | (with_reducible first | exact HB.out | apply below_alloc | apply pw_below_drewN | apply below_drew1) | exact HB.out)))); (case aL => have := LMc23.out; omega); intro v168 w31 ho hb hg hat; rw [← Ny167.out] at ho; have n0_ := Aside0.mk (Kd.Q_over' (by (with_reducible repeat (first | apply Kd.Q_alloc | apply Kd.Q_drewN | apply Kd.Q_drew)); exact HO_7.out) (Kd.N_typed (by (with_reducible repeat (first | apply Kd.N_alloc | apply Kd.N_drewN | apply Kd.N_drew)); exact HO_8.out)) (by decide) hg); have n1_ := Aside0.mk (hb); have n2_ := Aside0.mk ((show Kd.C (Kd.int .u8) w31 Ao27 y152.length y152 from by rw [Ny152.out]; exact Kd.C_take (m := 4) ((Kd.Q_reads' (Kd.Q_over' (by (with_reducible repeat (first | apply Kd.Q_alloc | apply Kd.Q_drewN | apply Kd.Q_drew)); exact HO_7.out) (Kd.N_typed (by (with_reducible repeat (first | apply Kd.N_alloc | apply Kd.N_drewN | apply Kd.N_drew)); exact HO_8.out)) (by decide) hg)).2.2) KL28.out)); have n3_ := Aside0.mk ((show Kd.C (Kd.int .u8) w31 A29 y160.length y160 from by rw [Ny160.out, KA29.out]; exact Kd.C_mid (lo := 4) (hi := ((ji24) : Int).toNat) (c := co27) ((Kd.Q_reads' (Kd.Q_over' (by (with_reducible repeat (first | apply Kd.Q_alloc | apply Kd.Q_drewN | apply Kd.Q_drew)); exact HO_7.out) (Kd.N_typed (by (with_reducible repeat (first | apply Kd.N_alloc | apply Kd.N_drewN | apply Kd.N_drew)); exact HO_8.out)) (by decide) hg)).2.2) KM29.out KL29.out ((Kd.Q_reads' (Kd.Q_over' (by (with_reducible repeat (first | apply Kd.Q_alloc | apply Kd.Q_drewN | apply Kd.Q_drew)); exact HO_7.out) (Kd.N_typed (by (with_reducible repeat (first | apply Kd.N_alloc | apply Kd.N_drewN | apply Kd.N_drew)); exact HO_8.out)) (by decide) hg)).2.1))); have n4_ := Aside0.mk (ho); clear HO_7; clear HB; clear HR155; clear HR163; clear HO_8; clear HO166; have HO_7 := n0_; have HB := n1_; have HR155 := n2_; have HR163 := n3_; have HO169 := n4_; clear n0_ n1_ n2_ n3_ n4_; clear ho hb hg hat; have n_ := Aside0.mk (Kd.Q_mono (ok' := (fun k_ => (w.heap.size ≤ k_))) HO_7.out (fun k_ hk => hk.1)); clear HO_7; have HO_7 := n_; clear n_; have q33 : ((ji24) : Int) ≤ ((x7_1.length : Int) : Int) := of_decide_eq_true (by first | (with_reducible assumption) | assumption); obtain ⟨i033, hi033, _, hsz33, _⟩ := info_parts info5; have hcut33 := cut_from (P := Try.prog) 22 5 .i64 Try.underlying22 hi033 1 hsz33 Ao27 x7_1.length co27 (ji24) (of_decide_eq_true (by first | (with_reducible assumption) | assumption)) q33; have hr33 := Kd.Q_drop (k := ((ji24) : Int).toNat) HO_7.out (by omega); obtain ⟨A33, hA33⟩ : ∃ A1, A1 = (if co27 = ((ji24) : Int).toNat then Ao27 else (Ao27 : Option Addr).map (·.add (((ji24) : Int).toNat * 1))) := ⟨_, rfl⟩; obtain ⟨c33, hc33⟩ : ∃ c1, c1 = co27 - ((ji24) : Int).toNat := ⟨_, rfl⟩; have hy33 : y170.length = x7_1.length - ((ji24) : Int).toNat := (by rw [Ny170.out, List.length_drop]); rw [← Ny170.out] at hr33; rw [← hy33, ← hA33, ← hc33] at hcut33; replace hr33 : Kd.Q (Kd.int .u8) 5 w31 w.heap.size (fun k_ => (w.heap.size ≤ k_)) (.slice A33 y170.length c33) y170 := (by rw [hA33, hc33, hy33]; exact hr33); have HE33 : Aside0 ((Value.slice A33 y170.length c33).ownBlock = (.slice Ao27 x7_1.length co27 : Value).ownBlock) := ⟨by rw [hA33]; split <;> (cases (Ao27 : Option Addr) <;> first | rfl | (simp [Value.ownBlock, add_block]))⟩; clear hy33 hi033 hsz33 HO_7 hA33 hc33; have HO172 := Aside0.mk hr33; clear hr33; replace q33 := eq_true q33; have n_ := Aside0.mk (Kd.N_mono (ok' := fun k_ => ((((P0_ k_ ∨ P1_ k_) ∨ w.heap.size ≤ k_)) ∧ some k_ ≠ (.slice A33 y170.length c33 : Value).ownBlock)) HO169.out (fun k_ hk => ⟨hk.1, (by rw [HE33.out]; exact hk.2)⟩)); clear HO169; have HO169 := n_; clear n_))
            go_roundg k1
            case measure => have := HK1.out; omega
            case rel => exact ⟨(y170), (y167), H', ⟨by have := HK1.out; omega⟩, ⟨by (with_reducible repeat (first | apply Kd.Q_alloc | apply Kd.Q_drewN | apply Kd.Q_drew)); exact HO172.out⟩, ⟨by (with_reducible repeat (first | apply Kd.N_alloc | apply Kd.N_drewN | apply Kd.N_drew)); exact HO169.out⟩, ⟨by repeat (first | (with_reducible first | exact HB.out | apply below_alloc | apply pw_below_drewN | apply below_drew1) | exact HB.out)⟩⟩
           ·rw [if_neg c25] at H
            exact absurd H (by simp)
          ·rw [if_neg c23] at H
           exact absurd H (by simp)
         ·rw [if_neg c21] at H
          exact absurd H (by simp)
        ·rw [if_neg c20] at H
         exact absurd H (by simp)
     ·rw [if_neg c10] at H
      exact absurd H (by simp)
    ·rw [if_neg c9] at H
     have c9b0 : decide (4 ≤ (x7_1.length : Int)) = false := decide_eq_false c9
     have c9b1 : decide (4 ≤ x7_1.length) = false := decide_eq_false (by omega)
     clear c9
     replace H := Option.bind_eq_some_iff.mp H
     obtain ⟨t149, A340, H⟩ := H
     replace H : (some (x8_1, t149, 0)) = some (r1, r2, r3) := H
     have A34 := Aside0.mk A340
     clear A340
     simp only [Option.some.injEq, Prod.mk.injEq] at H
     obtain ⟨rfl, rfl, rfl⟩ := H
     obtain ⟨Ao35, co35, eo35, _⟩ := Kd.Q_slice HO_7.out
     subst eo35
     go_wp2_with (first | ((with_reducible refine gate_callee (f := 30) rfl ?_); refine goesL_ (some 44) rfl rfl Try.func30 (by kernel_rfl) rfl #[.slice Ao35 x7_1.length co35] rfl (by (try simp only [List.map_toArray, List.map_cons, List.map_nil]); first | done | rfl) ?_; (with_reducible refine (slices_Clone_byte_byte.calls _ _ x7_1 t149 _ ?side1 ?side2 A34.out).mono ?_); (case side1 => repeat (first | exact (Kd.Q_reads' HO_7.out).2.2 | (with_reducible refine Kd.C_alloc ?_ _) | (with_reducible refine Kd.C_drewN ?_ _) | (with_reducible refine Kd.C_drew ?_))); (case side2 => exact (Kd.Q_reads' HO_7.out).2.1); rintro e w36 ⟨v150, rfl, ho0, hb⟩; refine ⟨_, rfl, ?_⟩; have n0_ := Aside0.mk (Kd.Q_elder' (by (with_reducible repeat (first | apply Kd.Q_alloc | apply Kd.Q_drewN | apply Kd.Q_drew)); exact HO_7.out) (Kd.R_base ho0) hb); have n1_ := Aside0.mk (Kd.N_elder' (by (with_reducible repeat (first | apply Kd.N_alloc | apply Kd.N_drewN | apply Kd.N_drew)); exact HO_8.out) (Kd.R_base ho0) hb); have n2_ := Aside0.mk (Kd.R_lower (Kd.R_new' (Kd.R_newM (M := fun k_ => (w.heap.size ≤ k_)) ho0 (below_size (by repeat (first | (with_reducible first | exact HB.out | apply below_alloc | apply pw_below_drewN | apply below_drew1) | exact HB.out))) (fun k_ h_ => h_)) (Kd.Q_lt (by (with_reducible repeat (first | apply Kd.Q_alloc | apply Kd.Q_drewN | apply Kd.Q_drew)); exact HO_7.out))) (below_size (by repeat (first | (with_reducible first | exact HB.out | apply below_alloc | apply pw_below_drewN | apply below_drew1) | exact HB.out)))); have n3_ := Aside0.mk (below_step (by repeat (first | (with_reducible first | exact HB.out | apply below_alloc | apply pw_below_drewN | apply below_drew1) | exact HB.out)) hb); clear HO_7; clear HO_8; clear HB; have HO_7 := n0_; have HO_8 := n1_; have HO151 := n2_; have HB := n3_; clear n0_ n1_ n2_ n3_; (try clear hb); (try clear hb2); (try clear hk); (try clear hi); (try clear ho0)))
     go_ret3
     exact ⟨_, _, by first | rfl | (simp [errW_none, errW_some] <;> rfl) | (simp [*, errW_none, errW_some] <;> rfl), by (with_reducible repeat (first | apply Kd.N_alloc | apply Kd.N_drewN | apply Kd.N_drew)); exact Kd.N_mono HO_8.out (fun _ hk => by first | exact ⟨hk.1.1, hk.2⟩ | (and_intros <;> first | exact hk | exact hk.1 | exact hk.2 | exact hk.1.1 | exact hk.1.2 | exact hk.2.1 | exact hk.2.2 | exact hk.1.1.1 | exact hk.1.1.2 | exact hk.2.2.1 | exact hk.2.2.2)), by (with_reducible repeat (first | apply Kd.R_alloc | apply Kd.R_drewN | apply Kd.R_drew)); exact Kd.R_mono HO151.out (fun _ hk => by first | exact hk.1.1 | (and_intros <;> first | exact hk | exact hk.1 | exact hk.2 | exact hk.1.1 | exact hk.1.2 | exact hk.2.1 | exact hk.2.2 | exact hk.1.1.1 | exact hk.1.1.2 | exact hk.2.2.1 | exact hk.2.2.2)), by repeat (first | (with_reducible first | exact HB.out | apply below_alloc | apply pw_below_drewN | apply below_drew1) | exact HB.out)⟩

/-! ### packthreadkeep_FrameLong: function 12 -/
def packthreadkeep_FrameLong.j0 : Nat → Bool → Option (Bool)
 | 0, _ => none
 | k + 1, x4 => some x4
def packthreadkeep_FrameLong.f (k : Nat) (l0 : List (List Int)) (a1 : Int) : Option (Bool) := (packthreadkeep_wrapped.f k l0 10).bind fun bt173 => ((packthreadkeep_Picked.f a1 1048576).bind fun t180 => ((some (([((wrap64 (1025 + t180)) / 16777216) % 256, ((wrap64 (1025 + t180)) / 65536) % 256, ((wrap64 (1025 + t180)) / 256) % 256, (wrap64 (1025 + t180)) % 256] : List Int) : List Int)).bind fun y181 => (if ([] : List Int).length + bt173.1.length < 140737488355328 then ((some (([] : List Int) ++ bt173.1 : List Int)).bind fun y184 => (if y184.length + y181.length < 140737488355328 then ((frame_Feed.f k ([] : List Int) (y184 ++ y181)).bind fun bt190 => ((some (([] : List Int) ++ bt173.1 : List Int)).bind fun y197 => (if 3 ≤ (y181.length : Int) then ((some (y181.take 3 : List Int)).bind fun y200 => (if y197.length + y200.length < 140737488355328 then ((frame_Feed.f k ([] : List Int) (y197 ++ y200)).bind fun bt208 => (if 1025 ≤ 281474976710656 then ((frame_Wrap.f k (List.replicate 1025 0)).bind fun bt218 => (if bt173.2.2 = true then (if bt190.2.2 = 1 then (if (bt190.1.length : Int) = 0 then (if (bt190.2.1.length : Int) = 0 then (if bt208.2.2 = 0 then (if (bt208.2.1.length : Int) = 3 then (packthreadkeep_FrameLong.j0 k (bt218.2 == 1)) else (packthreadkeep_FrameLong.j0 k false)) else (packthreadkeep_FrameLong.j0 k false)) else (packthreadkeep_FrameLong.j0 k false)) else (packthreadkeep_FrameLong.j0 k false)) else (packthreadkeep_FrameLong.j0 k false)) else (packthreadkeep_FrameLong.j0 k false))) else (none))) else (none))) else (none)))) else (none))) else (none))))
theorem packthreadkeep_FrameLong.mono_l : ∀ k, (∀ y0, LeO (packthreadkeep_FrameLong.j0 k y0) (packthreadkeep_FrameLong.j0 (k + 1) y0))
 | 0 => fun _ r h => by simp [packthreadkeep_FrameLong.j0] at h
 | k + 1 => by
  have ih0 := packthreadkeep_FrameLong.mono_l k
  ·intro y0
   unfold packthreadkeep_FrameLong.j0
   repeat' first
   | (with_reducible exact ih0 _)
   | (with_reducible exact frame_Feed.mono _ _ _)
   | (with_reducible exact frame_Wrap.mono _ _)
   | (with_reducible exact packthreadkeep_wrapped.mono _ _ _)
   | (with_reducible exact LeO.refl _)
   | (with_reducible exact LeO.none _)
   | (with_reducible refine LeO.ite ?_ ?_)
   | (with_reducible refine LeO.bind ?_ (fun _ => ?_))
   | exact ih0 _
   | exact frame_Feed.mono _ _ _
   | exact frame_Wrap.mono _ _
   | exact packthreadkeep_wrapped.mono _ _ _
   | exact LeO.none _
   | refine LeO.ite ?_ ?_
   | refine LeO.bind ?_ (fun _ => ?_)
theorem packthreadkeep_FrameLong.mono : ∀ a0 a1 k, LeO (packthreadkeep_FrameLong.f k a0 a1) (packthreadkeep_FrameLong.f (k + 1) a0 a1) := by
 intro a0 a1 k
 have ih0 := packthreadkeep_FrameLong.mono_l k
 unfold packthreadkeep_FrameLong.f
 repeat' first
   | (with_reducible exact ih0 _)
   | (with_reducible exact frame_Feed.mono _ _ _)
   | (with_reducible exact frame_Wrap.mono _ _)
   | (with_reducible exact packthreadkeep_wrapped.mono _ _ _)
   | (with_reducible exact LeO.refl _)
   | (with_reducible exact LeO.none _)
   | (with_reducible refine LeO.ite ?_ ?_)
   | (with_reducible refine LeO.bind ?_ (fun _ => ?_))
   | exact ih0 _
   | exact frame_Feed.mono _ _ _
   | exact frame_Wrap.mono _ _
   | exact packthreadkeep_wrapped.mono _ _ _
   | exact LeO.none _
   | refine LeO.ite ?_ ?_
   | refine LeO.bind ?_ (fun _ => ?_)
def packthreadkeep_FrameLong.T5 : Bool × List (List Nat × List Nat) := (true, [([], []), ([0], [0]), ([], []), ([2], [2]), ([1, 3, 1], [1, 3]), ([4, 4], [4]), ([5], [5]), ([6], [6]), ([6], [6]), ([6], [6]), ([7, 5, 0, 1, 2, 3, 4, 5, 6, 7], [7]), ([8, 10, 0, 1, 2, 3, 4, 5, 6, 7, 8, 10], [8]), ([9, 11, 0, 1, 2, 3, 4, 5, 6, 7, 8, 9, 10, 11], [9])])
def packthreadkeep_FrameLong.B5 : List Nat := [0, 1, 0, 4, 15, 31, 63, 127, 127, 127, 255, 1535, 4095]
theorem packthreadkeep_FrameLong.tab5 : rtab .any (opsOf Try.f12 5) = packthreadkeep_FrameLong.T5 := by kernel_rfl
theorem packthreadkeep_FrameLong.bits5 : waitsOk packthreadkeep_FrameLong.T5.2 packthreadkeep_FrameLong.B5 = true := by kernel_rfl
set_option maxHeartbeats 8000000 in
set_option maxRecDepth 100000 in
theorem packthreadkeep_FrameLong.calls (k : Nat) (A0 : Option Addr) (c0 : Nat) (l0 : List (List Int)) (a1 : Int) (r : Bool) (w : World) (hr0 : Kd.C (Kd.slice 5 (Kd.int .u8)) w A0 l0.length l0) (hc0 : l0.length ≤ c0) (h : packthreadkeep_FrameLong.f k l0 a1 = some r) :
  Calls Try.prog 12 #[.slice A0 l0.length c0, .int .i64 a1] w fun e w' => e = .returned (.bool r) ∧ Below w.heap.size w w' := by
 have HR0 := Aside0.mk hr0
 have HC0 := Aside0.mk hc0
 clear hr0 hc0
 have HB := Aside0.mk (Below.refl w.heap.size w)
 have H : ((packthreadkeep_wrapped.f k l0 10).bind fun bt173 => ((packthreadkeep_Picked.f a1 1048576).bind fun t180 => ((some (([((wrap64 (1025 + t180)) / 16777216) % 256, ((wrap64 (1025 + t180)) / 65536) % 256, ((wrap64 (1025 + t180)) / 256) % 256, (wrap64 (1025 + t180)) % 256] : List Int) : List Int)).bind fun y181 => (if ([] : List Int).length + bt173.1.length < 140737488355328 then ((some (([] : List Int) ++ bt173.1 : List Int)).bind fun y184 => (if y184.length + y181.length < 140737488355328 then ((frame_Feed.f k ([] : List Int) (y184 ++ y181)).bind fun bt190 => ((some (([] : List Int) ++ bt173.1 : List Int)).bind fun y197 => (if 3 ≤ (y181.length : Int) then ((some (y181.take 3 : List Int)).bind fun y200 => (if y197.length + y200.length < 140737488355328 then ((frame_Feed.f k ([] : List Int) (y197 ++ y200)).bind fun bt208 => (if 1025 ≤ 281474976710656 then ((frame_Wrap.f k (List.replicate 1025 0)).bind fun bt218 => (if bt173.2.2 = true then (if bt190.2.2 = 1 then (if (bt190.1.length : Int) = 0 then (if (bt190.2.1.length : Int) = 0 then (if bt208.2.2 = 0 then (if (bt208.2.1.length : Int) = 3 then (packthreadkeep_FrameLong.j0 k (bt218.2 == 1)) else (packthreadkeep_FrameLong.j0 k false)) else (packthreadkeep_FrameLong.j0 k false)) else (packthreadkeep_FrameLong.j0 k false)) else (packthreadkeep_FrameLong.j0 k false)) else (packthreadkeep_FrameLong.j0 k false)) else (packthreadkeep_FrameLong.j0 k false))) else (none))) else (none))) else (none)))) else (none))) else (none))))) = some r := h
 clear h
 replace H := Option.bind_eq_some_iff.mp H
 obtain ⟨⟨t173, t174, t175⟩, A30, H⟩ := H
 replace H : ((packthreadkeep_Picked.f a1 1048576).bind fun t180 => ((some (([((wrap64 (1025 + t180)) / 16777216) % 256, ((wrap64 (1025 + t180)) / 65536) % 256, ((wrap64 (1025 + t180)) / 256) % 256, (wrap64 (1025 + t180)) % 256] : List Int) : List Int)).bind fun y181 => (if ([] : List Int).length + t173.length < 140737488355328 then ((some (([] : List Int) ++ t173 : List Int)).bind fun y184 => (if y184.length + y181.length < 140737488355328 then ((frame_Feed.f k ([] : List Int) (y184 ++ y181)).bind fun bt190 => ((some (([] : List Int) ++ t173 : List Int)).bind fun y197 => (if 3 ≤ (y181.length : Int) then ((some (y181.take 3 : List Int)).bind fun y200 => (if y197.length + y200.length < 140737488355328 then ((frame_Feed.f k ([] : List Int) (y197 ++ y200)).bind fun bt208 => (if 1025 ≤ 281474976710656 then ((frame_Wrap.f k (List.replicate 1025 0)).bind fun bt218 => (if t175 = true then (if bt190.2.2 = 1 then (if (bt190.1.length : Int) = 0 then (if (bt190.2.1.length : Int) = 0 then (if bt208.2.2 = 0 then (if (bt208.2.1.length : Int) = 3 then (packthreadkeep_FrameLong.j0 k (bt218.2 == 1)) else (packthreadkeep_FrameLong.j0 k false)) else (packthreadkeep_FrameLong.j0 k false)) else (packthreadkeep_FrameLong.j0 k false)) else (packthreadkeep_FrameLong.j0 k false)) else (packthreadkeep_FrameLong.j0 k false)) else (packthreadkeep_FrameLong.j0 k false))) else (none))) else (none))) else (none)))) else (none))) else (none)))) = some r := H
 have A3 := Aside0.mk A30
 clear A30
 replace H := Option.bind_eq_some_iff.mp H
 obtain ⟨t180, A40, H⟩ := H
 replace H : ((some (([((wrap64 (1025 + t180)) / 16777216) % 256, ((wrap64 (1025 + t180)) / 65536) % 256, ((wrap64 (1025 + t180)) / 256) % 256, (wrap64 (1025 + t180)) % 256] : List Int) : List Int)).bind fun y181 => (if ([] : List Int).length + t173.length < 140737488355328 then ((some (([] : List Int) ++ t173 : List Int)).bind fun y184 => (if y184.length + y181.length < 140737488355328 then ((frame_Feed.f k ([] : List Int) (y184 ++ y181)).bind fun bt190 => ((some (([] : List Int) ++ t173 : List Int)).bind fun y197 => (if 3 ≤ (y181.length : Int) then ((some (y181.take 3 : List Int)).bind fun y200 => (if y197.length + y200.length < 140737488355328 then ((frame_Feed.f k ([] : List Int) (y197 ++ y200)).bind fun bt208 => (if 1025 ≤ 281474976710656 then ((frame_Wrap.f k (List.replicate 1025 0)).bind fun bt218 => (if t175 = true then (if bt190.2.2 = 1 then (if (bt190.1.length : Int) = 0 then (if (bt190.2.1.length : Int) = 0 then (if bt208.2.2 = 0 then (if (bt208.2.1.length : Int) = 3 then (packthreadkeep_FrameLong.j0 k (bt218.2 == 1)) else (packthreadkeep_FrameLong.j0 k false)) else (packthreadkeep_FrameLong.j0 k false)) else (packthreadkeep_FrameLong.j0 k false)) else (packthreadkeep_FrameLong.j0 k false)) else (packthreadkeep_FrameLong.j0 k false)) else (packthreadkeep_FrameLong.j0 k false))) else (none))) else (none))) else (none)))) else (none))) else (none))) = some r := H
 have A4 := Aside0.mk A40
 clear A40
 obtain ⟨y181, hy181⟩ : ∃ y_ : List Int, y_ = (([((wrap64 (1025 + t180)) / 16777216) % 256, ((wrap64 (1025 + t180)) / 65536) % 256, ((wrap64 (1025 + t180)) / 256) % 256, (wrap64 (1025 + t180)) % 256] : List Int)) := ⟨_, rfl⟩
 replace H : (if ([] : List Int).length + t173.length < 140737488355328 then ((some (([] : List Int) ++ t173 : List Int)).bind fun y184 => (if y184.length + y181.length < 140737488355328 then ((frame_Feed.f k ([] : List Int) (y184 ++ y181)).bind fun bt190 => ((some (([] : List Int) ++ t173 : List Int)).bind fun y197 => (if 3 ≤ (y181.length : Int) then ((some (y181.take 3 : List Int)).bind fun y200 => (if y197.length + y200.length < 140737488355328 then ((frame_Feed.f k ([] : List Int) (y197 ++ y200)).bind fun bt208 => (if 1025 ≤ 281474976710656 then ((frame_Wrap.f k (List.replicate 1025 0)).bind fun bt218 => (if t175 = true then (if bt190.2.2 = 1 then (if (bt190.1.length : Int) = 0 then (if (bt190.2.1.length : Int) = 0 then (if bt208.2.2 = 0 then (if (bt208.2.1.length : Int) = 3 then (packthreadkeep_FrameLong.j0 k (bt218.2 == 1)) else (packthreadkeep_FrameLong.j0 k false)) else (packthreadkeep_FrameLong.j0 k false)) else (packthreadkeep_FrameLong.j0 k false)) else (packthreadkeep_FrameLong.j0 k false)) else (packthreadkeep_FrameLong.j0 k false)) else (packthreadkeep_FrameLong.j0 k false))) else (none))) else (none))) else (none)))) else (none))) else (none)) = some r := by first | (rw [hy181]; with_reducible exact H) | (have H2_ := (Option.bind_some _ _).symm.trans H; rw [hy181]; with_reducible exact H2_) | (have H2_ := (Option.bind_some _ _).symm.trans H; with_reducible exact H2_) | with_reducible exact H | (rw [hy181]; exact H) | exact H
 have Ny181 := Aside0.mk hy181
 clear hy181
 by_cases c5 : ([] : List Int).length + t173.length < 140737488355328
 ·rw [if_pos c5] at H
  have LMc5 := Aside0.mk c5
  clear c5
  obtain ⟨y184, hy184⟩ : ∃ y_ : List Int, y_ = (([] : List Int) ++ t173) := ⟨_, rfl⟩
  replace H : (if y184.length + y181.length < 140737488355328 then ((frame_Feed.f k ([] : List Int) (y184 ++ y181)).bind fun bt190 => ((some (([] : List Int) ++ t173 : List Int)).bind fun y197 => (if 3 ≤ (y181.length : Int) then ((some (y181.take 3 : List Int)).bind fun y200 => (if y197.length + y200.length < 140737488355328 then ((frame_Feed.f k ([] : List Int) (y197 ++ y200)).bind fun bt208 => (if 1025 ≤ 281474976710656 then ((frame_Wrap.f k (List.replicate 1025 0)).bind fun bt218 => (if t175 = true then (if bt190.2.2 = 1 then (if (bt190.1.length : Int) = 0 then (if (bt190.2.1.length : Int) = 0 then (if bt208.2.2 = 0 then (if (bt208.2.1.length : Int) = 3 then (packthreadkeep_FrameLong.j0 k (bt218.2 == 1)) else (packthreadkeep_FrameLong.j0 k false)) else (packthreadkeep_FrameLong.j0 k false)) else (packthreadkeep_FrameLong.j0 k false)) else (packthreadkeep_FrameLong.j0 k false)) else (packthreadkeep_FrameLong.j0 k false)) else (packthreadkeep_FrameLong.j0 k false))) else (none))) else (none))) else (none)))) else (none)) = some r := by first | (rw [hy184]; with_reducible exact H) | (have H2_ := (Option.bind_some _ _).symm.trans H; rw [hy184]; with_reducible exact H2_) | (have H2_ := (Option.bind_some _ _).symm.trans H; with_reducible exact H2_) | with_reducible exact H | (rw [hy184]; exact H) | exact H
  have Ny184 := Aside0.mk hy184
  clear hy184
  by_cases c6 : y184.length + y181.length < 140737488355328
  ·rw [if_pos c6] at H
   have LMc6 := Aside0.mk c6
   clear c6
   obtain ⟨y187, hy187⟩ : ∃ y_ : List Int, y_ = (y184 ++ y181) := ⟨_, rfl⟩
   replace H : ((frame_Feed.f k ([] : List Int) y187).bind fun bt190 => ((some (([] : List Int) ++ t173 : List Int)).bind fun y197 => (if 3 ≤ (y181.length : Int) then ((some (y181.take 3 : List Int)).bind fun y200 => (if y197.length + y200.length < 140737488355328 then ((frame_Feed.f k ([] : List Int) (y197 ++ y200)).bind fun bt208 => (if 1025 ≤ 281474976710656 then ((frame_Wrap.f k (List.replicate 1025 0)).bind fun bt218 => (if t175 = true then (if bt190.2.2 = 1 then (if (bt190.1.length : Int) = 0 then (if (bt190.2.1.length : Int) = 0 then (if bt208.2.2 = 0 then (if (bt208.2.1.length : Int) = 3 then (packthreadkeep_FrameLong.j0 k (bt218.2 == 1)) else (packthreadkeep_FrameLong.j0 k false)) else (packthreadkeep_FrameLong.j0 k false)) else (packthreadkeep_FrameLong.j0 k false)) else (packthreadkeep_FrameLong.j0 k false)) else (packthreadkeep_FrameLong.j0 k false)) else (packthreadkeep_FrameLong.j0 k false))) else (none))) else (none))) else (none)))) = some r := by first | (rw [hy187]; with_reducible exact H) | (have H2_ := (Option.bind_some _ _).symm.trans H; rw [hy187]; with_reducible exact H2_) | (have H2_ := (Option.bind_some _ _).symm.trans H; with_reducible exact H2_) | with_reducible exact H | (rw [hy187]; exact H) | exact H
   have Ny187 := Aside0.mk hy187
   clear hy187
   replace H := Option.bind_eq_some_iff.mp H
   obtain ⟨⟨t190, t193, t196⟩, A70, H⟩ := H
   replace H : ((some (([] : List Int) ++ t173 : List Int)).bind fun y197 => (if 3 ≤ (y181.length : Int) then ((some (y181.take 3 : List Int)).bind fun y200 => (if y197.length + y200.length < 140737488355328 then ((frame_Feed.f k ([] : List Int) (y197 ++ y200)).bind fun bt208 => (if 1025 ≤ 281474976710656 then ((frame_Wrap.f k (List.replicate 1025 0)).bind fun bt218 => (if t175 = true then (if t196 = 1 then (if (t190.length : Int) = 0 then (if (t193.length : Int) = 0 then (if bt208.2.2 = 0 then (if (bt208.2.1.length : Int) = 3 then (packthreadkeep_FrameLong.j0 k (bt218.2 == 1)) else (packthreadkeep_FrameLong.j0 k false)) else (packthreadkeep_FrameLong.j0 k false)) else (packthreadkeep_FrameLong.j0 k false)) else (packthreadkeep_FrameLong.j0 k false)) else (packthreadkeep_FrameLong.j0 k false)) else (packthreadkeep_FrameLong.j0 k false))) else (none))) else (none))) else (none))) = some r := H
   have A7 := Aside0.mk A70
   clear A70
   obtain ⟨y197, hy197⟩ : ∃ y_ : List Int, y_ = (([] : List Int) ++ t173) := ⟨_, rfl⟩
   replace H : (if 3 ≤ (y181.length : Int) then ((some (y181.take 3 : List Int)).bind fun y200 => (if y197.length + y200.length < 140737488355328 then ((frame_Feed.f k ([] : List Int) (y197 ++ y200)).bind fun bt208 => (if 1025 ≤ 281474976710656 then ((frame_Wrap.f k (List.replicate 1025 0)).bind fun bt218 => (if t175 = true then (if t196 = 1 then (if (t190.length : Int) = 0 then (if (t193.length : Int) = 0 then (if bt208.2.2 = 0 then (if (bt208.2.1.length : Int) = 3 then (packthreadkeep_FrameLong.j0 k (bt218.2 == 1)) else (packthreadkeep_FrameLong.j0 k false)) else (packthreadkeep_FrameLong.j0 k false)) else (packthreadkeep_FrameLong.j0 k false)) else (packthreadkeep_FrameLong.j0 k false)) else (packthreadkeep_FrameLong.j0 k false)) else (packthreadkeep_FrameLong.j0 k false))) else (none))) else (none))) else (none)) = some r := by first | (rw [hy197]; with_reducible exact H) | (have H2_ := (Option.bind_some _ _).symm.trans H; rw [hy197]; with_reducible exact H2_) | (have H2_ := (Option.bind_some _ _).symm.trans H; with_reducible exact H2_) | with_reducible exact H | (rw [hy197]; exact H) | exact H
   have Ny197 := Aside0.mk hy197
   clear hy197
   by_cases c8 : 3 ≤ (y181.length : Int)
   ·rw [if_pos c8] at H
    have c8b0 := eq_true c8
    have c8b1 : decide (3 ≤ (y181.length : Int)) = true := decide_eq_true c8
    clear c8
    obtain ⟨y200, hy200⟩ : ∃ y_ : List Int, y_ = (y181.take 3) := ⟨_, rfl⟩
    replace H : (if y197.length + y200.length < 140737488355328 then ((frame_Feed.f k ([] : List Int) (y197 ++ y200)).bind fun bt208 => (if 1025 ≤ 281474976710656 then ((frame_Wrap.f k (List.replicate 1025 0)).bind fun bt218 => (if t175 = true then (if t196 = 1 then (if (t190.length : Int) = 0 then (if (t193.length : Int) = 0 then (if bt208.2.2 = 0 then (if (bt208.2.1.length : Int) = 3 then (packthreadkeep_FrameLong.j0 k (bt218.2 == 1)) else (packthreadkeep_FrameLong.j0 k false)) else (packthreadkeep_FrameLong.j0 k false)) else (packthreadkeep_FrameLong.j0 k false)) else (packthreadkeep_FrameLong.j0 k false)) else (packthreadkeep_FrameLong.j0 k false)) else (packthreadkeep_FrameLong.j0 k false))) else (none))) else (none)) = some r := by first | (rw [hy200]; with_reducible exact H) | (have H2_ := (Option.bind_some _ _).symm.trans H; rw [hy200]; with_reducible exact H2_) | (have H2_ := (Option.bind_some _ _).symm.trans H; with_reducible exact H2_) | with_reducible exact H | (rw [hy200]; exact H) | exact H
    have Ny200 := Aside0.mk hy200
    clear hy200
    by_cases c9 : y197.length + y200.length < 140737488355328
    ·rw [if_pos c9] at H
     have LMc9 := Aside0.mk c9
     clear c9
     obtain ⟨y205, hy205⟩ : ∃ y_ : List Int, y_ = (y197 ++ y200) := ⟨_, rfl⟩
     replace H : ((frame_Feed.f k ([] : List Int) y205).bind fun bt208 => (if 1025 ≤ 281474976710656 then ((frame_Wrap.f k (List.replicate 1025 0)).bind fun bt218 => (if t175 = true then (if t196 = 1 then (if (t190.length : Int) = 0 then (if (t193.length : Int) = 0 then (if bt208.2.2 = 0 then (if (bt208.2.1.length : Int) = 3 then (packthreadkeep_FrameLong.j0 k (bt218.2 == 1)) else (packthreadkeep_FrameLong.j0 k false)) else (packthreadkeep_FrameLong.j0 k false)) else (packthreadkeep_FrameLong.j0 k false)) else (packthreadkeep_FrameLong.j0 k false)) else (packthreadkeep_FrameLong.j0 k false)) else (packthreadkeep_FrameLong.j0 k false))) else (none))) = some r := by first | (rw [hy205]; with_reducible exact H) | (have H2_ := (Option.bind_some _ _).symm.trans H; rw [hy205]; with_reducible exact H2_) | (have H2_ := (Option.bind_some _ _).symm.trans H; with_reducible exact H2_) | with_reducible exact H | (rw [hy205]; exact H) | exact H
     have Ny205 := Aside0.mk hy205
     clear hy205
     replace H := Option.bind_eq_some_iff.mp H
     obtain ⟨⟨t208, t211, t214⟩, A100, H⟩ := H
     replace H : (if 1025 ≤ 281474976710656 then ((frame_Wrap.f k (List.replicate 1025 0)).bind fun bt218 => (if t175 = true then (if t196 = 1 then (if (t190.length : Int) = 0 then (if (t193.length : Int) = 0 then (if t214 = 0 then (if (t211.length : Int) = 3 then (packthreadkeep_FrameLong.j0 k (bt218.2 == 1)) else (packthreadkeep_FrameLong.j0 k false)) else (packthreadkeep_FrameLong.j0 k false)) else (packthreadkeep_FrameLong.j0 k false)) else (packthreadkeep_FrameLong.j0 k false)) else (packthreadkeep_FrameLong.j0 k false)) else (packthreadkeep_FrameLong.j0 k false))) else (none)) = some r := H
     have A10 := Aside0.mk A100
     clear A100
     by_cases c11 : 1025 ≤ 281474976710656
     ·rw [if_pos c11] at H
      have c11b0 := eq_true c11
      have c11b1 : decide (1025 ≤ 281474976710656) = true := decide_eq_true c11
      clear c11
      obtain ⟨y215, hy215⟩ : ∃ y_ : List Int, y_ = (List.replicate 1025 0) := ⟨_, rfl⟩
      replace H : ((frame_Wrap.f k y215).bind fun bt218 => (if t175 = true then (if t196 = 1 then (if (t190.length : Int) = 0 then (if (t193.length : Int) = 0 then (if t214 = 0 then (if (t211.length : Int) = 3 then (packthreadkeep_FrameLong.j0 k (bt218.2 == 1)) else (packthreadkeep_FrameLong.j0 k false)) else (packthreadkeep_FrameLong.j0 k false)) else (packthreadkeep_FrameLong.j0 k false)) else (packthreadkeep_FrameLong.j0 k false)) else (packthreadkeep_FrameLong.j0 k false)) else (packthreadkeep_FrameLong.j0 k false))) = some r := by first | (rw [hy215]; with_reducible exact H) | (have H2_ := (Option.bind_some _ _).symm.trans H; rw [hy215]; with_reducible exact H2_) | (have H2_ := (Option.bind_some _ _).symm.trans H; with_reducible exact H2_) | with_reducible exact H | (rw [hy215]; exact H) | exact H
      have Ny215 := Aside0.mk hy215
      clear hy215
      replace H := Option.bind_eq_some_iff.mp H
      obtain ⟨⟨t218, t219⟩, A120, H⟩ := H
      replace H : (if t175 = true then (if t196 = 1 then (if (t190.length : Int) = 0 then (if (t193.length : Int) = 0 then (if t214 = 0 then (if (t211.length : Int) = 3 then (packthreadkeep_FrameLong.j0 k (t219 == 1)) else (packthreadkeep_FrameLong.j0 k false)) else (packthreadkeep_FrameLong.j0 k false)) else (packthreadkeep_FrameLong.j0 k false)) else (packthreadkeep_FrameLong.j0 k false)) else (packthreadkeep_FrameLong.j0 k false)) else (packthreadkeep_FrameLong.j0 k false)) = some r := H
      have A12 := Aside0.mk A120
      clear A120
      have HC13 := Aside0.mk H
      clear H
      go_enter Try.func12, Try.ntmps12
      try go_wp2_with (first | ((with_reducible refine gate_callee (f := 24) rfl ?_); refine goesL_ (some 20) rfl rfl Try.func24 (by kernel_rfl) rfl #[.slice A0 l0.length c0, .int .i64 10] rfl (by (try simp only [List.map_toArray, List.map_cons, List.map_nil]); first | done | rfl) ?_; (with_reducible refine (packthreadkeep_wrapped.calls k _ _ l0 10 t173 t174 t175 _ ?side1 ?side2 A3.out).mono ?_); (case side1 => repeat (first | exact HR0.out | (with_reducible refine Kd.C_alloc ?_ _) | (with_reducible refine Kd.C_drewN ?_ _) | (with_reducible refine Kd.C_drew ?_))); (case side2 => exact HC0.out); rintro e w14 ⟨v176, v178, rfl, ho0, ho1, hb⟩; refine ⟨_, rfl, ?_⟩; have n0_ := Aside0.mk (Kd.R_lower ho0 (below_size (by repeat (first | (with_reducible first | exact HB.out | apply below_alloc | apply pw_below_drewN | apply below_drew1) | exact HB.out)))); have n1_ := Aside0.mk (Kd.N_lower (Kd.N_mono (ok' := fun k_ => some k_ ≠ (v176 : Value).ownBlock) (Kd.S_N (Kd.S_bound ho1)) (fun k_ hk_ => hk_.1)) (below_size (by repeat (first | (with_reducible first | exact HB.out | apply below_alloc | apply pw_below_drewN | apply below_drew1) | exact HB.out)))); have n2_ := Aside0.mk (below_step (by repeat (first | (with_reducible first | exact HB.out | apply below_alloc | apply pw_below_drewN | apply below_drew1) | exact HB.out)) hb); clear HB; have HO177 := n0_; have HO179 := n1_; have HB := n2_; clear n0_ n1_ n2_; (try clear hb); (try clear hb2); (try clear hk); (try clear hi); (try clear ho0); (try clear ho1)) | ((with_reducible refine gate_callee (f := 14) rfl ?_); refine goesL_ (some 25) rfl rfl Try.func14 (by kernel_rfl) rfl #[.int .i64 a1, .int .i64 1048576] rfl (by (try simp only [List.map_toArray, List.map_cons, List.map_nil]); first | done | rfl) ?_; (with_reducible refine (packthreadkeep_Picked.calls a1 1048576 t180 _ A4.out).mono ?_); rintro e w' ⟨rfl, ⟨nd, rfl⟩⟩; refine ⟨_, rfl, ?_⟩) | ((with_reducible refine gate_dst (N := 38) rfl ?_); (try (refine gate_guard (by rfl) ?_; dsimp only)); refine Kd.R_lit (Kd.int .u8) _ 5 ?hg (N := 38) ?hd (xs := ([((wrap64 (1025 + t180)) / 16777216) % 256, ((wrap64 (1025 + t180)) / 65536) % 256, ((wrap64 (1025 + t180)) / 256) % 256, (wrap64 (1025 + t180)) % 256] : List Int)) (inner := [.int .u8 (((wrap64 (1025 + t180)) / 16777216) % 256), .int .u8 (((wrap64 (1025 + t180)) / 65536) % 256), .int .u8 (((wrap64 (1025 + t180)) / 256) % 256), .int .u8 ((wrap64 (1025 + t180)) % 256)]) (ok := fun _ => True) (okp := fun _ => True) ?hr ?hp (fun _ hk => hk) trivial (Below.refl _ _) (Nat.le_refl _) (by simp) ?_; (case hd => rfl); (case hg => rfl); (case hr => first | (go_simp; done) | (go_simp; rfl)); (case hp => exact (Reps.one (show Kd.M (Kd.int .u8) _ _ _ (((wrap64 (1025 + t180)) / 16777216) % 256) [.int .u8 (((wrap64 (1025 + t180)) / 16777216) % 256)] from rfl) (Reps.one (show Kd.M (Kd.int .u8) _ _ _ (((wrap64 (1025 + t180)) / 65536) % 256) [.int .u8 (((wrap64 (1025 + t180)) / 65536) % 256)] from rfl) (Reps.one (show Kd.M (Kd.int .u8) _ _ _ (((wrap64 (1025 + t180)) / 256) % 256) [.int .u8 (((wrap64 (1025 + t180)) / 256) % 256)] from rfl) (Reps.one (show Kd.M (Kd.int .u8) _ _ _ ((wrap64 (1025 + t180)) % 256) [.int .u8 ((wrap64 (1025 + t180)) % 256)] from rfl) (Reps.none _ _)))))); intro v182 w15 ho16 hb hg_ hnew_; clear hg_ hnew_; (first | rw [← Ny181.out] at ho16 | (simp only [Int.reduceToNat] at ho16; rw [← Ny181.out] at ho16)); have n0_ := Aside0.mk (Kd.R_elder' (by (with_reducible repeat (first | apply Kd.R_alloc | apply Kd.R_drewN | apply Kd.R_drew)); exact HO177.out) (Kd.R_base ho16) hb); have n1_ := Aside0.mk (Kd.N_elder' (by (with_reducible repeat (first | apply Kd.N_alloc | apply Kd.N_drewN | apply Kd.N_drew)); exact HO179.out) (Kd.R_base ho16) hb); have n2_ := Aside0.mk (Kd.R_lower (Kd.R_new' ho16 (Kd.R_lt (by (with_reducible repeat (first | apply Kd.R_alloc | apply Kd.R_drewN | apply Kd.R_drew)); exact HO177.out))) (below_size (by repeat (first | (with_reducible first | exact HB.out | apply below_alloc | apply pw_below_drewN | apply below_drew1) | exact HB.out)))); have n3_ := Aside0.mk (below_step (by repeat (first | (with_reducible first | exact HB.out | apply below_alloc | apply pw_below_drewN | apply below_drew1) | exact HB.out)) hb); clear HO177; clear HO179; clear HB; have HO177 := n0_; have HO179 := n1_; have HO183 := n2_; have HB := n3_; clear n0_ n1_ n2_ n3_; clear hb ho16; obtain ⟨Ao18, co18, eo18⟩ := Kd.R_slice HO177.out; subst eo18) | ((with_reducible refine gate_builtin (b := .append) (xs := #[.const (.slice none 0 0), .tmp 40]) rfl ?_); (try (refine gate_guard (by rfl) ?_; dsimp only)); at_builtin; refine Kd.R_append_rows (Kd.int .u8) (w0 := w) w.heap.size rfl (.const (.slice none 0 0)) (.tmp 40) 22 5 (.int .u8 0) 1 rfl Try.underlying22 info5 rfl (by decide) (by omega) (.slice none 0 0) ([] : List Int) t173 _ _ _ (fun k_ => some k_ ≠ (.slice Ao18 t173.length co18 : Value).ownBlock ∧ some k_ ≠ (v182 : Value).ownBlock) (fun _ => False) rfl rfl ?aO ?aR (fun _ _ h => h) (fun _ h => h.elim) ?aF ?aB ?aS ?aL ?_; (case aR => repeat (first | exact (Kd.R_reads' HO177.out).2.2 | (with_reducible refine Kd.C_alloc ?_ _) | (with_reducible refine Kd.C_drewN ?_ _) | (with_reducible refine Kd.C_drew ?_))); (case aB => exact (by repeat (first | (with_reducible first | exact HB.out | apply below_alloc | apply pw_below_drewN | apply below_drew1) | exact HB.out))); (case aF => exact (fun k_ hk => ⟨Kd.fresh' (Kd.R_lt (by (with_reducible repeat (first | apply Kd.R_alloc | apply Kd.R_drewN | apply Kd.R_drew)); exact HO177.out)) k_ hk, Kd.fresh' (Kd.R_lt (by (with_reducible repeat (first | apply Kd.R_alloc | apply Kd.R_drewN | apply Kd.R_drew)); exact HO183.out)) k_ hk⟩)); (case aO => exact ((Kd.R_nil _ _ _ _ (fun k_ => some k_ ≠ (.slice Ao18 t173.length co18 : Value).ownBlock ∧ some k_ ≠ (v182 : Value).ownBlock)))); (case aS => exact (below_size (by repeat (first | (with_reducible first | exact HB.out | apply below_alloc | apply pw_below_drewN | apply below_drew1) | exact HB.out)))); (case aL => have := LMc5.out; omega); intro v185 w17 ho hb hg hat; rw [← Ny184.out] at ho; have n0_ := Aside0.mk (Kd.R_after (Kd.R_apart_nil (by (with_reducible repeat (first | apply Kd.R_alloc | apply Kd.R_drewN | apply Kd.R_drew)); exact HO177.out)) hg hat); have n1_ := Aside0.mk (Kd.N_afterv (Kd.N_apart_nil (by (with_reducible repeat (first | apply Kd.N_alloc | apply Kd.N_drewN | apply Kd.N_drew)); exact HO179.out)) hg hat); have n2_ := Aside0.mk (Kd.R_after (Kd.R_apart_nil (by (with_reducible repeat (first | apply Kd.R_alloc | apply Kd.R_drewN | apply Kd.R_drew)); exact HO183.out)) hg hat); have n3_ := Aside0.mk (hb); have n4_ := Aside0.mk (ho); clear HO177; clear HO179; clear HO183; clear HB; have HO177 := n0_; have HO179 := n1_; have HO183 := n2_; have HB := n3_; have HO186 := n4_; clear n0_ n1_ n2_ n3_ n4_; clear ho hb hg hat; obtain ⟨Ao20, co20, eo20⟩ := Kd.R_slice HO183.out; subst eo20) | ((with_reducible refine gate_builtin (b := .append) (xs := #[.tmp 41, .tmp 42]) rfl ?_); (try (refine gate_guard (by rfl) ?_; dsimp only)); at_builtin; refine Kd.R_append_rows (Kd.int .u8) (w0 := w) w.heap.size rfl (.tmp 41) (.tmp 42) 22 5 (.int .u8 0) 1 rfl Try.underlying22 info5 rfl (by decide) (by omega) v185 y184 y181 _ _ _ (fun k_ => some k_ ≠ (.slice Ao18 t173.length co18 : Value).ownBlock ∧ some k_ ≠ (.slice Ao20 y181.length co20 : Value).ownBlock) (fun _ => False) rfl rfl ?aO ?aR (fun _ _ h => h) (fun _ h => h.elim) ?aF ?aB ?aS ?aL ?_; (case aR => repeat (first | exact (Kd.R_reads' HO183.out).2.2 | (with_reducible refine Kd.C_alloc ?_ _) | (with_reducible refine Kd.C_drewN ?_ _) | (with_reducible refine Kd.C_drew ?_))); (case aB => exact (by repeat (first | (with_reducible first | exact HB.out | apply below_alloc | apply pw_below_drewN | apply below_drew1) | exact HB.out))); (case aF => exact (fun k_ hk => ⟨Kd.fresh' (Kd.R_lt (by (with_reducible repeat (first | apply Kd.R_alloc | apply Kd.R_drewN | apply Kd.R_drew)); exact HO177.out)) k_ hk, Kd.fresh' (Kd.R_lt (by (with_reducible repeat (first | apply Kd.R_alloc | apply Kd.R_drewN | apply Kd.R_drew)); exact HO183.out)) k_ hk⟩)); (case aO => exact (by (with_reducible repeat (first | apply Kd.R_alloc | apply Kd.R_drewN | apply Kd.R_drew)); exact HO186.out)); (case aS => exact (below_size (by repeat (first | (with_reducible first | exact HB.out | apply below_alloc | apply pw_below_drewN | apply below_drew1) | exact HB.out)))); (case aL => have := LMc6.out; omega); intro v188 w19 ho hb hg hat; rw [← Ny187.out] at ho; have n0_ := Aside0.mk (Kd.R_after (ok := (fun k_ => some k_ ≠ (.slice Ao20 y181.length co20 : Value).ownBlock)) (by (with_reducible repeat (first | apply Kd.R_alloc | apply Kd.R_drewN | apply Kd.R_drew)); exact Kd.R_mono HO177.out (fun _ hk => by first | exact ⟨hk.1.2, hk.2⟩ | (and_intros <;> first | exact hk | exact hk.1 | exact hk.2 | exact hk.1.1 | exact hk.1.2 | exact hk.2.1 | exact hk.2.2 | exact hk.1.1.1 | exact hk.1.1.2 | exact hk.2.2.1 | exact hk.2.2.2))) hg hat); have n1_ := Aside0.mk (Kd.N_afterv (ok := (fun k_ => some k_ ≠ (.slice Ao18 t173.length co18 : Value).ownBlock ∧ some k_ ≠ (.slice Ao20 y181.length co20 : Value).ownBlock)) (by (with_reducible repeat (first | apply Kd.N_alloc | apply Kd.N_drewN | apply Kd.N_drew)); exact HO179.out) hg hat); have n2_ := Aside0.mk (Kd.R_after (ok := (fun k_ => some k_ ≠ (.slice Ao18 t173.length co18 : Value).ownBlock)) (by (with_reducible repeat (first | apply Kd.R_alloc | apply Kd.R_drewN | apply Kd.R_drew)); exact Kd.R_mono HO183.out (fun _ hk => by first | exact ⟨hk.1.2, hk.2⟩ | (and_intros <;> first | exact hk | exact hk.1 | exact hk.2 | exact hk.1.1 | exact hk.1.2 | exact hk.2.1 | exact hk.2.2 | exact hk.1.1.1 | exact hk.1.1.2 | exact hk.2.2.1 | exact hk.2.2.2))) hg hat); have n3_ := Aside0.mk (hb); have n4_ := Aside0.mk (ho); clear HO177; clear HO179; clear HO183; clear HB; clear HO186; have HO177 := n0_; have HO179 := n1_; have HO183 := n2_; have HB := n3_; have HO189 := n4_; clear n0_ n1_ n2_ n3_ n4_; clear ho hb hg hat; obtain ⟨Ao21, co21, eo21⟩ := Kd.R_slice HO189.out; subst eo21) | ((with_reducible refine gate_callee (f := 26) rfl ?_); refine goesL_ (some 44) rfl rfl Try.func26 (by kernel_rfl) rfl #[.slice none 0 0, .slice Ao21 y187.length co21] rfl (by (try simp only [List.map_toArray, List.map_cons, List.map_nil]); first | done | rfl) ?_; (refine (frame_Feed.calls k (fun k_ => False) _ _ ([] : List Int) (fun k_ => some k_ = (.slice Ao21 y187.length co21 : Value).ownBlock) _ _ y187 t190 t193 t196 _ ?side1 ?side2 A7.out).mono ?_); (case side1 => exact Kd.V_nil _ _ _ _ _); (case side2 => exact Kd.R_V (Kd.R_tight rfl (Kd.R_apart' (HO189.out) (Kd.N_typed HO179.out) (by decide)))); rintro e w22 ⟨v191, v194, rfl, ho0, ho1, hb⟩; refine ⟨_, rfl, ?_⟩; have n0_ := Aside0.mk (Kd.R_elder' (by (with_reducible repeat (first | apply Kd.R_alloc | apply Kd.R_drewN | apply Kd.R_drew)); exact HO177.out) (Kd.R_base ho1) hb); have n1_ := Aside0.mk (Kd.N_mono (Kd.N_told (Kd.N_told (Kd.N_old (by (with_reducible repeat (first | apply Kd.N_alloc | apply Kd.N_drewN | apply Kd.N_drew)); exact HO179.out) hb) (Kd.N_base ho0)) (Kd.R_base ho1)) (fun _ h_ => h_.1)); have n2_ := Aside0.mk (Kd.R_elder' (by (with_reducible repeat (first | apply Kd.R_alloc | apply Kd.R_drewN | apply Kd.R_drew)); exact HO183.out) (Kd.R_base ho1) hb); have n3_ := Aside0.mk (Kd.R_elder' (by (with_reducible repeat (first | apply Kd.R_alloc | apply Kd.R_drewN | apply Kd.R_drew)); exact HO189.out) (Kd.R_base ho1) hb); have n4_ := Aside0.mk (Kd.N_lower (Kd.N_mono (ok' := fun k_ => some k_ ≠ (v194 : Value).ownBlock ∧ some k_ ≠ (.slice Ao18 t173.length co18 : Value).ownBlock ∧ some k_ ≠ (v178 : Value).ownBlock ∧ some k_ ≠ (.slice Ao20 y181.length co20 : Value).ownBlock) ho0 (fun k_ hk_ => ⟨hk_.2, Or.elim hk_.1 (fun hs_ => Or.elim hs_ (fun hs_ => (hs_).elim) (fun hs_ => ((Kd.R_apart' (HO189.out) (Kd.N_typed HO179.out) (by decide)).1 k_ hs_.symm).1.1)) (fun hn_ => (Kd.fresh' (Kd.R_lt (by (with_reducible repeat (first | apply Kd.R_alloc | apply Kd.R_drewN | apply Kd.R_drew)); exact HO177.out)) k_ hn_)), Or.elim hk_.1 (fun hs_ => Or.elim hs_ (fun hs_ => (hs_).elim) (fun hs_ => ((Kd.R_apart' (HO189.out) (Kd.N_typed HO179.out) (by decide)).1 k_ hs_.symm).2)) (fun hn_ => (Kd.fresh' (Kd.N_lt (by (with_reducible repeat (first | apply Kd.N_alloc | apply Kd.N_drewN | apply Kd.N_drew)); exact HO179.out)) k_ hn_)), Or.elim hk_.1 (fun hs_ => Or.elim hs_ (fun hs_ => (hs_).elim) (fun hs_ => ((Kd.R_apart' (HO189.out) (Kd.N_typed HO179.out) (by decide)).1 k_ hs_.symm).1.2)) (fun hn_ => (Kd.fresh' (Kd.R_lt (by (with_reducible repeat (first | apply Kd.R_alloc | apply Kd.R_drewN | apply Kd.R_drew)); exact HO183.out)) k_ hn_))⟩)) (below_size (by repeat (first | (with_reducible first | exact HB.out | apply below_alloc | apply pw_below_drewN | apply below_drew1) | exact HB.out)))); have n5_ := Aside0.mk (Kd.R_lower (Kd.R_new' (Kd.R_new' (Kd.R_new' (Kd.R_mono (ok' := fun k_ => True) ho1 (fun _ hk_ => trivial)) (Kd.R_lt (by (with_reducible repeat (first | apply Kd.R_alloc | apply Kd.R_drewN | apply Kd.R_drew)); exact HO177.out))) (Kd.R_lt (by (with_reducible repeat (first | apply Kd.R_alloc | apply Kd.R_drewN | apply Kd.R_drew)); exact HO183.out))) (Kd.R_lt (by (with_reducible repeat (first | apply Kd.R_alloc | apply Kd.R_drewN | apply Kd.R_drew)); exact HO189.out))) (below_size (by repeat (first | (with_reducible first | exact HB.out | apply below_alloc | apply pw_below_drewN | apply below_drew1) | exact HB.out)))); have n6_ := Aside0.mk (below_step (by repeat (first | (with_reducible first | exact HB.out | apply below_alloc | apply pw_below_drewN | apply below_drew1) | exact HB.out)) hb); clear HO177; clear HO179; clear HO183; clear HO189; clear HB; have HO177 := n0_; have HO179 := n1_; have HO183 := n2_; have HO189 := n3_; have HO192 := n4_; have HO195 := n5_; have HB := n6_; clear n0_ n1_ n2_ n3_ n4_ n5_ n6_; (try clear hb); (try clear hb2); (try clear hk); (try clear hi); (try clear ho0); (try clear ho1)))
      have n0_ := Aside0.mk (Kd.R_drew HO177.out)
      have n1_ := Aside0.mk (Kd.N_drew HO179.out)
      have n2_ := Aside0.mk (Kd.R_drew HO183.out)
      have n3_ := Aside0.mk (Kd.R_drew HO189.out)
      have n4_ := Aside0.mk (Kd.N_drew HO192.out)
      have n5_ := Aside0.mk (Kd.R_drew HO195.out)
      have n6_ := Aside0.mk (below_drew1 HB.out)
      clear HO177
      clear HO179
      clear HO183
      clear HO189
      clear HO192
      clear HO195
      clear HB
      have HO177 := n0_
      have HO179 := n1_
      have HO183 := n2_
      have HO189 := n3_
      have HO192 := n4_
      have HO195 := n5_
      have HB := n6_
      clear n0_ n1_ n2_ n3_ n4_ n5_ n6_
      have q24 : (3 : Int) ≤ ((y181.length : Int) : Int) := of_decide_eq_true (by first | (with_reducible assumption) | assumption)
      obtain ⟨i024, hi024, _, hsz24, _⟩ := info_parts info5
      have hroom24 : y181.length ≤ co20 := (Kd.R_reads' HO183.out).2.1
      have hC24 : Kd.F (Kd.int .u8) _ _ Ao20 y181.length y181 := (Kd.V_at (base := w.heap.size) (Kd.R_V (Kd.R_apart' (Kd.R_apart' (HO183.out) (Kd.N_typed HO179.out) (by decide)) (Kd.N_typed HO192.out) (by decide)))).2.2
      have hcut24 := cut_to (P := Try.prog) 22 5 .i64 Try.underlying22 hi024 Ao20 y181.length co20 3 (by omega) q24 hroom24
      have hr24 := Kd.F_take (m := 3) hC24 (by omega)
      have hy24 : y200.length = (3 : Int).toNat := (by rw [Ny200.out, List.length_take]; omega)
      rw [← Ny200.out] at hr24
      rw [← hy24] at hcut24
      have HO204 := Aside0.mk (show Kd.V (Kd.int .u8) 5 _ w.heap.size _ (.slice Ao20 y200.length co20) y200 from Kd.V_mk (by omega) hr24)
      have HC204 := Aside0.mk (show y200.length ≤ co20 from by omega)
      clear hr24 hC24 hroom24 hi024 hsz24
      have KY24 := Aside0.mk hy24
      clear hy24
      replace q24 := eq_true q24
      refine start_ (n := 13) (S := fun w' => True) (ds := []) #[false, false, false, false, false, false, false, false, false, false, false, false, false] (by kernel_rfl) rfl rfl trivial (fun hHeld => ?_); refine with_tabW packthreadkeep_FrameLong.tab5 packthreadkeep_FrameLong.bits5 (fun HT_ HW_ => ?_)
      generalize w22.drew = w23 at HO177 HO179 HO183 HO189 HO192 HO195 HB HO204 hHeld ⊢
      refine pure_ (i := 0) (N := some 49) (v := ?_) (a' := ?_) #[true, false, false, false, false, false, false, false, false, false, false, false, false] rfl rfl (any_of HT_.out (by kernel_rfl)) (fun _ _ _ h => h) (Or.inl ⟨by rfl, ?_⟩) ?_ ?_
      rotate_left
      ·intro w'
       go_simp
       with_reducible rfl
      rotate_left
      ·simp only [Act.put, sA_, sZ_, sS_, i64_w, i32_w]
       rfl
      refine pure_ (i := 2) (N := some 51) (v := ?_) (a' := ?_) #[true, false, true, false, false, false, false, false, false, false, false, false, false] rfl rfl (any_of HT_.out (by kernel_rfl)) (fun _ _ _ h => h) (Or.inl ⟨by rfl, ?_⟩) ?_ ?_
      rotate_left
      ·intro w'
       go_simp
       with_reducible rfl
      rotate_left
      ·simp only [Act.put, sA_, sZ_, sS_, i64_w, i32_w]
       rfl
      refine pure_ (i := 3) (N := some 52) (v := ?_) (a' := ?_) #[true, false, true, true, false, false, false, false, false, false, false, false, false] rfl rfl (any_of HT_.out (by kernel_rfl)) (fun _ _ _ h => h) (Or.inl ⟨by rfl, ?_⟩) ?_ ?_
      rotate_left
      ·intro w'
       go_simp
       with_reducible rfl
      rotate_left
      ·simp only [Act.put, sA_, sZ_, sS_, i64_w, i32_w]
       rfl
      refine one_ (i := 1) (N := some 50) #[true, true, true, true, false, false, false, false, false, false, false, false, false] rfl rfl (one_of HT_.out (by kernel_rfl)) (by decide) (fun K hK => ?_)
      refine Kd.R_append_rows_step (Kd.int .u8) (w0 := w) w.heap.size (by rfl) (.const (.slice none 0 0)) (.tmp 49) 22 5 (.int .u8 0) 1 rfl Try.underlying22 info5 rfl (by decide) (by omega) (.slice none 0 0) ([] : List Int) t173 _ _ _ (fun k_ => some k_ ≠ (.slice Ao18 t173.length co18 : Value).ownBlock ∧ some k_ ≠ (.slice Ao20 y181.length co20 : Value).ownBlock ∧ some k_ ≠ (.slice Ao21 y187.length co21 : Value).ownBlock ∧ some k_ ≠ (v194 : Value).ownBlock) (fun _ => False) rfl rfl ?aO ?aR (fun _ _ h => h) (fun _ h => h.elim) ?aF ?aB ?aS ?aL ?_
      (case aR => repeat (first | exact (Kd.R_reads' HO177.out).2.2 | (with_reducible refine Kd.C_alloc ?_ _) | (with_reducible refine Kd.C_drewN ?_ _) | (with_reducible refine Kd.C_drew ?_)))
      (case aB => exact (by repeat (first | (with_reducible first | exact HB.out | apply below_alloc | apply pw_below_drewN | apply below_drew1) | exact HB.out)))
      (case aF => exact (fun k_ hk => ⟨Kd.fresh' (Kd.R_lt (by (with_reducible repeat (first | apply Kd.R_alloc | apply Kd.R_drewN | apply Kd.R_drew)); exact HO177.out)) k_ hk, Kd.fresh' (Kd.R_lt (by (with_reducible repeat (first | apply Kd.R_alloc | apply Kd.R_drewN | apply Kd.R_drew)); exact HO183.out)) k_ hk, Kd.fresh' (Kd.R_lt (by (with_reducible repeat (first | apply Kd.R_alloc | apply Kd.R_drewN | apply Kd.R_drew)); exact HO189.out)) k_ hk, Kd.fresh' (Kd.R_lt (by (with_reducible repeat (first | apply Kd.R_alloc | apply Kd.R_drewN | apply Kd.R_drew)); exact HO195.out)) k_ hk⟩))
      (case aO => exact ((Kd.R_nil _ _ _ _ (fun k_ => some k_ ≠ (.slice Ao18 t173.length co18 : Value).ownBlock ∧ some k_ ≠ (.slice Ao20 y181.length co20 : Value).ownBlock ∧ some k_ ≠ (.slice Ao21 y187.length co21 : Value).ownBlock ∧ some k_ ≠ (v194 : Value).ownBlock))))
      (case aS => exact (below_size (by repeat (first | (with_reducible first | exact HB.out | apply below_alloc | apply pw_below_drewN | apply below_drew1) | exact HB.out))))
      (case aL => have := LMc5.out; omega)
      intro v198 w25 ho hb hg hat
      rw [← Ny197.out] at ho
      have n0_ := Aside0.mk (Kd.R_after (Kd.R_apart_nil (by (with_reducible repeat (first | apply Kd.R_alloc | apply Kd.R_drewN | apply Kd.R_drew)); exact HO177.out)) hg hat)
      have n1_ := Aside0.mk (Kd.N_afterv (Kd.N_apart_nil (by (with_reducible repeat (first | apply Kd.N_alloc | apply Kd.N_drewN | apply Kd.N_drew)); exact HO179.out)) hg hat)
      have n2_ := Aside0.mk (Kd.R_after (Kd.R_apart_nil (by (with_reducible repeat (first | apply Kd.R_alloc | apply Kd.R_drewN | apply Kd.R_drew)); exact HO183.out)) hg hat)
      have n3_ := Aside0.mk (Kd.R_after (Kd.R_apart_nil (by (with_reducible repeat (first | apply Kd.R_alloc | apply Kd.R_drewN | apply Kd.R_drew)); exact HO189.out)) hg hat)
      have n4_ := Aside0.mk (Kd.N_afterv (Kd.N_apart_nil (by (with_reducible repeat (first | apply Kd.N_alloc | apply Kd.N_drewN | apply Kd.N_drew)); exact HO192.out)) hg hat)
      have n5_ := Aside0.mk (Kd.R_after (Kd.R_apart_nil (by (with_reducible repeat (first | apply Kd.R_alloc | apply Kd.R_drewN | apply Kd.R_drew)); exact HO195.out)) hg hat)
      have n6_ := Aside0.mk (Kd.V_afterv (Kd.V_apart_nil (by (with_reducible repeat (first | apply Kd.V_alloc | apply Kd.V_drewN | apply Kd.V_drew)); exact HO204.out)) hg hat)
      have n7_ := Aside0.mk (hb)
      have n8_ := Aside0.mk (ho)
      clear HO177
      clear HO179
      clear HO183
      clear HO189
      clear HO192
      clear HO195
      clear HO204
      clear HB
      have HO177 := n0_
      have HO179 := n1_
      have HO183 := n2_
      have HO189 := n3_
      have HO192 := n4_
      have HO195 := n5_
      have HO204 := n6_
      have HB := n7_
      have HO199 := n8_
      clear n0_ n1_ n2_ n3_ n4_ n5_ n6_ n7_ n8_
      clear ho hb hg hat
      refine hK.out _ _ trivial (fun hHeld => ?_)
      clear hK K
      refine norm_ (a' := ?_) ?_ ?_
      rotate_left
      ·show Act.put _ (some 50) _ = _
       simp only [Act.put, sA_, sZ_, sS_, i64_w, i32_w]
       rfl
      refine one_ (i := 4) (N := some 53) #[true, true, true, true, true, false, false, false, false, false, false, false, false] rfl rfl (one_of HT_.out (by kernel_rfl)) (by decide) (fun K hK => ?_)
      refine Kd.R_append_rows_step (Kd.int .u8) (w0 := w) w.heap.size (by rfl) (.tmp 50) (.tmp 52) 22 5 (.int .u8 0) 1 rfl Try.underlying22 info5 rfl (by decide) (by omega) v198 y197 y200 _ _ _ (fun k_ => some k_ ≠ (.slice Ao18 t173.length co18 : Value).ownBlock ∧ some k_ ≠ (.slice Ao20 y181.length co20 : Value).ownBlock ∧ some k_ ≠ (.slice Ao21 y187.length co21 : Value).ownBlock ∧ some k_ ≠ (v194 : Value).ownBlock) (fun _ => False) rfl rfl ?aO ?aR (fun _ _ h => h) (fun _ h => h.elim) ?aF ?aB ?aS ?aL ?_
      (case aR => repeat (first | exact (Kd.V_reads' HO204.out).2.2 | (with_reducible refine Kd.C_alloc ?_ _) | (with_reducible refine Kd.C_drewN ?_ _) | (with_reducible refine Kd.C_drew ?_)))
      (case aB => exact (by repeat (first | (with_reducible first | exact HB.out | apply below_alloc | apply pw_below_drewN | apply below_drew1) | exact HB.out)))
      (case aF => exact (fun k_ hk => ⟨Kd.fresh' (Kd.R_lt (by (with_reducible repeat (first | apply Kd.R_alloc | apply Kd.R_drewN | apply Kd.R_drew)); exact HO177.out)) k_ hk, Kd.fresh' (Kd.R_lt (by (with_reducible repeat (first | apply Kd.R_alloc | apply Kd.R_drewN | apply Kd.R_drew)); exact HO183.out)) k_ hk, Kd.fresh' (Kd.R_lt (by (with_reducible repeat (first | apply Kd.R_alloc | apply Kd.R_drewN | apply Kd.R_drew)); exact HO189.out)) k_ hk, Kd.fresh' (Kd.R_lt (by (with_reducible repeat (first | apply Kd.R_alloc | apply Kd.R_drewN | apply Kd.R_drew)); exact HO195.out)) k_ hk⟩))
      (case aO => exact (by (with_reducible repeat (first | apply Kd.R_alloc | apply Kd.R_drewN | apply Kd.R_drew)); exact HO199.out))
      (case aS => exact (below_size (by repeat (first | (with_reducible first | exact HB.out | apply below_alloc | apply pw_below_drewN | apply below_drew1) | exact HB.out))))
      (case aL => have := LMc9.out; omega)
      intro v206 w26 ho hb hg hat
      rw [← Ny205.out] at ho
      have n0_ := Aside0.mk (Kd.R_after (ok := (fun k_ => some k_ ≠ (.slice Ao20 y181.length co20 : Value).ownBlock ∧ some k_ ≠ (.slice Ao21 y187.length co21 : Value).ownBlock ∧ some k_ ≠ (v194 : Value).ownBlock)) (by (with_reducible repeat (first | apply Kd.R_alloc | apply Kd.R_drewN | apply Kd.R_drew)); exact Kd.R_mono HO177.out (fun _ hk => by first | exact ⟨⟨hk.1.1.1, ⟨hk.1.1.2, hk.1.2⟩⟩, hk.2⟩ | ((try simp only [and_assoc] at hk); and_intros <;> first | exact hk.1 | exact hk.2.1 | exact hk.2.2.1 | exact hk.2.2.2.1 | exact hk.2.2.2.2.1 | exact hk.2.2.2.2 | exact hk.2.2.2 | exact hk.2.2 | exact hk.2))) hg hat)
      have n1_ := Aside0.mk (Kd.N_afterv (ok := (fun k_ => some k_ ≠ (.slice Ao18 t173.length co18 : Value).ownBlock ∧ some k_ ≠ (.slice Ao20 y181.length co20 : Value).ownBlock ∧ some k_ ≠ (.slice Ao21 y187.length co21 : Value).ownBlock ∧ some k_ ≠ (v191 : Value).ownBlock ∧ some k_ ≠ (v194 : Value).ownBlock)) (by (with_reducible repeat (first | apply Kd.N_alloc | apply Kd.N_drewN | apply Kd.N_drew)); exact Kd.N_mono HO179.out (fun _ hk => by first | exact ⟨⟨hk.1.1.1.1.1, ⟨hk.1.1.1.1.2, ⟨hk.1.1.1.2, ⟨hk.1.1.2, hk.1.2⟩⟩⟩⟩, hk.2⟩ | ((try simp only [and_assoc] at hk); and_intros <;> first | exact hk.1 | exact hk.2.1 | exact hk.2.2.1 | exact hk.2.2.2.1 | exact hk.2.2.2.2.1 | exact hk.2.2.2.2 | exact hk.2.2.2 | exact hk.2.2 | exact hk.2))) hg hat)
      have n2_ := Aside0.mk (Kd.R_after (ok := (fun k_ => some k_ ≠ (.slice Ao18 t173.length co18 : Value).ownBlock ∧ some k_ ≠ (.slice Ao21 y187.length co21 : Value).ownBlock ∧ some k_ ≠ (v194 : Value).ownBlock)) (by (with_reducible repeat (first | apply Kd.R_alloc | apply Kd.R_drewN | apply Kd.R_drew)); exact Kd.R_mono HO183.out (fun _ hk => by first | exact ⟨⟨hk.1.1.1, ⟨hk.1.1.2, hk.1.2⟩⟩, hk.2⟩ | ((try simp only [and_assoc] at hk); and_intros <;> first | exact hk.1 | exact hk.2.1 | exact hk.2.2.1 | exact hk.2.2.2.1 | exact hk.2.2.2.2.1 | exact hk.2.2.2.2 | exact hk.2.2.2 | exact hk.2.2 | exact hk.2))) hg hat)
      have n3_ := Aside0.mk (Kd.R_after (ok := (fun k_ => some k_ ≠ (.slice Ao18 t173.length co18 : Value).ownBlock ∧ some k_ ≠ (.slice Ao20 y181.length co20 : Value).ownBlock ∧ some k_ ≠ (v194 : Value).ownBlock)) (by (with_reducible repeat (first | apply Kd.R_alloc | apply Kd.R_drewN | apply Kd.R_drew)); exact Kd.R_mono HO189.out (fun _ hk => by first | exact ⟨⟨hk.1.1.1, ⟨hk.1.1.2, hk.1.2⟩⟩, hk.2⟩ | ((try simp only [and_assoc] at hk); and_intros <;> first | exact hk.1 | exact hk.2.1 | exact hk.2.2.1 | exact hk.2.2.2.1 | exact hk.2.2.2.2.1 | exact hk.2.2.2.2 | exact hk.2.2.2 | exact hk.2.2 | exact hk.2))) hg hat)
      have n4_ := Aside0.mk (Kd.N_afterv (ok := (fun k_ => some k_ ≠ (.slice Ao18 t173.length co18 : Value).ownBlock ∧ some k_ ≠ (v178 : Value).ownBlock ∧ some k_ ≠ (.slice Ao20 y181.length co20 : Value).ownBlock ∧ some k_ ≠ (v194 : Value).ownBlock)) (by (with_reducible repeat (first | apply Kd.N_alloc | apply Kd.N_drewN | apply Kd.N_drew)); exact Kd.N_mono HO192.out (fun _ hk => by first | exact ⟨⟨hk.1.2.1, ⟨hk.1.2.2.1, ⟨hk.1.2.2.2, hk.1.1⟩⟩⟩, hk.2⟩ | ((try simp only [and_assoc] at hk); and_intros <;> first | exact hk.1 | exact hk.2.1 | exact hk.2.2.1 | exact hk.2.2.2.1 | exact hk.2.2.2.2.1 | exact hk.2.2.2.2 | exact hk.2.2.2 | exact hk.2.2 | exact hk.2))) hg hat)
      have n5_ := Aside0.mk (Kd.R_after (ok := (fun k_ => some k_ ≠ (.slice Ao18 t173.length co18 : Value).ownBlock ∧ some k_ ≠ (.slice Ao20 y181.length co20 : Value).ownBlock ∧ some k_ ≠ (.slice Ao21 y187.length co21 : Value).ownBlock)) (by (with_reducible repeat (first | apply Kd.R_alloc | apply Kd.R_drewN | apply Kd.R_drew)); exact Kd.R_mono HO195.out (fun _ hk => by first | exact ⟨⟨hk.1.1.1.2, ⟨hk.1.1.2, hk.1.2⟩⟩, hk.2⟩ | ((try simp only [and_assoc] at hk); and_intros <;> first | exact hk.1 | exact hk.2.1 | exact hk.2.2.1 | exact hk.2.2.2.1 | exact hk.2.2.2.2.1 | exact hk.2.2.2.2 | exact hk.2.2.2 | exact hk.2.2 | exact hk.2))) hg hat)
      have n6_ := Aside0.mk (Kd.V_afterv (ok := (fun k_ => some k_ ≠ (.slice Ao18 t173.length co18 : Value).ownBlock ∧ some k_ ≠ (v178 : Value).ownBlock ∧ some k_ ≠ (.slice Ao21 y187.length co21 : Value).ownBlock ∧ some k_ ≠ (v191 : Value).ownBlock ∧ some k_ ≠ (v194 : Value).ownBlock)) (by (with_reducible repeat (first | apply Kd.V_alloc | apply Kd.V_drewN | apply Kd.V_drew)); exact Kd.V_mono HO204.out (fun _ hk => by first | exact ⟨⟨hk.1.1.1.1.1, ⟨hk.1.1.2, ⟨hk.1.1.1.1.2, ⟨hk.1.2, hk.1.1.1.2⟩⟩⟩⟩, hk.2⟩ | ((try simp only [and_assoc] at hk); and_intros <;> first | exact hk.1 | exact hk.2.1 | exact hk.2.2.1 | exact hk.2.2.2.1 | exact hk.2.2.2.2.1 | exact hk.2.2.2.2 | exact hk.2.2.2 | exact hk.2.2 | exact hk.2))) hg hat)
      have n7_ := Aside0.mk (hb)
      have n8_ := Aside0.mk (ho)
      clear HO177
      clear HO179
      clear HO183
      clear HO189
      clear HO192
      clear HO195
      clear HO204
      clear HB
      clear HO199
      have HO177 := n0_
      have HO179 := n1_
      have HO183 := n2_
      have HO189 := n3_
      have HO192 := n4_
      have HO195 := n5_
      have HO204 := n6_
      have HB := n7_
      have HO207 := n8_
      clear n0_ n1_ n2_ n3_ n4_ n5_ n6_ n7_ n8_
      clear ho hb hg hat
      obtain ⟨Ao27, co27, eo27⟩ := Kd.R_slice HO207.out
      (first | subst eo27 | (injection eo27 with f1_ f2_ f3_; have f4_ := f1_.symm; have f5_ := f3_.symm; clear f1_ f2_ f3_; subst f4_; subst f5_))
      refine hK.out _ _ trivial (fun hHeld => ?_)
      clear hK K
      refine norm_ (a' := ?_) ?_ ?_
      rotate_left
      ·show Act.put _ (some 53) _ = _
       simp only [Act.put, sA_, sZ_, sS_, i64_w, i32_w]
       rfl
      refine one_ (i := 5) (N := some 54) #[true, true, true, true, true, true, false, false, false, false, false, false, false] rfl rfl (one_of HT_.out (by kernel_rfl)) (by decide) (fun K hK => ?_)
      refine goes_ Try.func26 (by kernel_rfl) rfl #[.slice none 0 0, .slice Ao27 y205.length co27] (by rfl) rfl rfl (by (try simp only [List.map_toArray, List.map_cons, List.map_nil]); first | done | rfl) ?_
      refine (frame_Feed.calls k (fun k_ => False) _ _ ([] : List Int) (fun k_ => some k_ = (.slice Ao27 y205.length co27 : Value).ownBlock) _ _ y205 t208 t211 t214 _ ?side1 ?side2 A10.out).mono ?_
      (case side1 => exact Kd.V_nil _ _ _ _ _)
      (case side2 => exact Kd.R_V (Kd.R_tight rfl (Kd.R_apart' (Kd.R_apart' (HO207.out) (Kd.N_typed HO179.out) (by decide)) (Kd.N_typed HO192.out) (by decide))))
      rintro e w28 ⟨v209, v212, rfl, ho0, ho1, hb⟩
      refine ⟨_, rfl, ?_⟩
      have n0_ := Aside0.mk (Kd.R_elder' (by (with_reducible repeat (first | apply Kd.R_alloc | apply Kd.R_drewN | apply Kd.R_drew)); exact HO177.out) (Kd.R_base ho1) hb)
      have n1_ := Aside0.mk (Kd.N_mono (Kd.N_told (Kd.N_told (Kd.N_old (by (with_reducible repeat (first | apply Kd.N_alloc | apply Kd.N_drewN | apply Kd.N_drew)); exact HO179.out) hb) (Kd.N_base ho0)) (Kd.R_base ho1)) (fun _ h_ => h_.1))
      have n2_ := Aside0.mk (Kd.R_elder' (by (with_reducible repeat (first | apply Kd.R_alloc | apply Kd.R_drewN | apply Kd.R_drew)); exact HO183.out) (Kd.R_base ho1) hb)
      have n3_ := Aside0.mk (Kd.R_elder' (by (with_reducible repeat (first | apply Kd.R_alloc | apply Kd.R_drewN | apply Kd.R_drew)); exact HO189.out) (Kd.R_base ho1) hb)
      have n4_ := Aside0.mk (Kd.N_mono (Kd.N_told (Kd.N_told (Kd.N_old (by (with_reducible repeat (first | apply Kd.N_alloc | apply Kd.N_drewN | apply Kd.N_drew)); exact HO192.out) hb) (Kd.N_base ho0)) (Kd.R_base ho1)) (fun _ h_ => h_.1))
      have n5_ := Aside0.mk (Kd.R_elder' (by (with_reducible repeat (first | apply Kd.R_alloc | apply Kd.R_drewN | apply Kd.R_drew)); exact HO195.out) (Kd.R_base ho1) hb)
      have n6_ := Aside0.mk (Kd.V_mono (Kd.V_told (Kd.V_told (Kd.V_old (by (with_reducible repeat (first | apply Kd.V_alloc | apply Kd.V_drewN | apply Kd.V_drew)); exact HO204.out) hb) (Kd.N_base ho0)) (Kd.R_base ho1)) (fun _ h_ => h_.1))
      have n7_ := Aside0.mk (Kd.R_elder' (by (with_reducible repeat (first | apply Kd.R_alloc | apply Kd.R_drewN | apply Kd.R_drew)); exact HO207.out) (Kd.R_base ho1) hb)
      have n8_ := Aside0.mk (Kd.N_lower (Kd.N_mono (ok' := fun k_ => some k_ ≠ (v212 : Value).ownBlock ∧ some k_ ≠ (.slice Ao18 t173.length co18 : Value).ownBlock ∧ some k_ ≠ (v178 : Value).ownBlock ∧ some k_ ≠ (.slice Ao20 y181.length co20 : Value).ownBlock ∧ some k_ ≠ (.slice Ao21 y187.length co21 : Value).ownBlock ∧ some k_ ≠ (v191 : Value).ownBlock ∧ some k_ ≠ (v194 : Value).ownBlock) ho0 (fun k_ hk_ => ⟨hk_.2, Or.elim hk_.1 (fun hs_ => Or.elim hs_ (fun hs_ => (hs_).elim) (fun hs_ => ((Kd.R_apart' (Kd.R_apart' (HO207.out) (Kd.N_typed HO179.out) (by decide)) (Kd.N_typed HO192.out) (by decide)).1 k_ hs_.symm).1.1.1)) (fun hn_ => (Kd.fresh' (Kd.R_lt (by (with_reducible repeat (first | apply Kd.R_alloc | apply Kd.R_drewN | apply Kd.R_drew)); exact HO177.out)) k_ hn_)), Or.elim hk_.1 (fun hs_ => Or.elim hs_ (fun hs_ => (hs_).elim) (fun hs_ => ((Kd.R_apart' (Kd.R_apart' (HO207.out) (Kd.N_typed HO179.out) (by decide)) (Kd.N_typed HO192.out) (by decide)).1 k_ hs_.symm).1.2)) (fun hn_ => (Kd.fresh' (Kd.N_lt (by (with_reducible repeat (first | apply Kd.N_alloc | apply Kd.N_drewN | apply Kd.N_drew)); exact HO179.out)) k_ hn_)), Or.elim hk_.1 (fun hs_ => Or.elim hs_ (fun hs_ => (hs_).elim) (fun hs_ => ((Kd.R_apart' (Kd.R_apart' (HO207.out) (Kd.N_typed HO179.out) (by decide)) (Kd.N_typed HO192.out) (by decide)).1 k_ hs_.symm).1.1.2.1)) (fun hn_ => (Kd.fresh' (Kd.R_lt (by (with_reducible repeat (first | apply Kd.R_alloc | apply Kd.R_drewN | apply Kd.R_drew)); exact HO183.out)) k_ hn_)), Or.elim hk_.1 (fun hs_ => Or.elim hs_ (fun hs_ => (hs_).elim) (fun hs_ => ((Kd.R_apart' (Kd.R_apart' (HO207.out) (Kd.N_typed HO179.out) (by decide)) (Kd.N_typed HO192.out) (by decide)).1 k_ hs_.symm).1.1.2.2.1)) (fun hn_ => (Kd.fresh' (Kd.R_lt (by (with_reducible repeat (first | apply Kd.R_alloc | apply Kd.R_drewN | apply Kd.R_drew)); exact HO189.out)) k_ hn_)), Or.elim hk_.1 (fun hs_ => Or.elim hs_ (fun hs_ => (hs_).elim) (fun hs_ => ((Kd.R_apart' (Kd.R_apart' (HO207.out) (Kd.N_typed HO179.out) (by decide)) (Kd.N_typed HO192.out) (by decide)).1 k_ hs_.symm).2)) (fun hn_ => (Kd.fresh' (Kd.N_lt (by (with_reducible repeat (first | apply Kd.N_alloc | apply Kd.N_drewN | apply Kd.N_drew)); exact HO192.out)) k_ hn_)), Or.elim hk_.1 (fun hs_ => Or.elim hs_ (fun hs_ => (hs_).elim) (fun hs_ => ((Kd.R_apart' (Kd.R_apart' (HO207.out) (Kd.N_typed HO179.out) (by decide)) (Kd.N_typed HO192.out) (by decide)).1 k_ hs_.symm).1.1.2.2.2)) (fun hn_ => (Kd.fresh' (Kd.R_lt (by (with_reducible repeat (first | apply Kd.R_alloc | apply Kd.R_drewN | apply Kd.R_drew)); exact HO195.out)) k_ hn_))⟩)) (below_size (by repeat (first | (with_reducible first | exact HB.out | apply below_alloc | apply pw_below_drewN | apply below_drew1) | exact HB.out))))
      have n9_ := Aside0.mk (Kd.R_lower (Kd.R_new' (Kd.R_new' (Kd.R_new' (Kd.R_new' (Kd.R_new' (Kd.R_mono (ok' := fun k_ => True) ho1 (fun _ hk_ => trivial)) (Kd.R_lt (by (with_reducible repeat (first | apply Kd.R_alloc | apply Kd.R_drewN | apply Kd.R_drew)); exact HO177.out))) (Kd.R_lt (by (with_reducible repeat (first | apply Kd.R_alloc | apply Kd.R_drewN | apply Kd.R_drew)); exact HO183.out))) (Kd.R_lt (by (with_reducible repeat (first | apply Kd.R_alloc | apply Kd.R_drewN | apply Kd.R_drew)); exact HO189.out))) (Kd.R_lt (by (with_reducible repeat (first | apply Kd.R_alloc | apply Kd.R_drewN | apply Kd.R_drew)); exact HO195.out))) (Kd.R_lt (by (with_reducible repeat (first | apply Kd.R_alloc | apply Kd.R_drewN | apply Kd.R_drew)); exact HO207.out))) (below_size (by repeat (first | (with_reducible first | exact HB.out | apply below_alloc | apply pw_below_drewN | apply below_drew1) | exact HB.out))))
      have n10_ := Aside0.mk (below_step (by repeat (first | (with_reducible first | exact HB.out | apply below_alloc | apply pw_below_drewN | apply below_drew1) | exact HB.out)) hb)
      clear HO177
      clear HO179
      clear HO183
      clear HO189
      clear HO192
      clear HO195
      clear HO204
      clear HO207
      clear HB
      have HO177 := n0_
      have HO179 := n1_
      have HO183 := n2_
      have HO189 := n3_
      have HO192 := n4_
      have HO195 := n5_
      have HO204 := n6_
      have HO207 := n7_
      have HO210 := n8_
      have HO213 := n9_
      have HB := n10_
      clear n0_ n1_ n2_ n3_ n4_ n5_ n6_ n7_ n8_ n9_ n10_
      (try clear hb)
      (try clear hb2)
      (try clear hk)
      (try clear hi)
      (try clear ho0)
      (try clear ho1)
      refine hK.out _ _ trivial (fun hHeld => ?_)
      clear hK K
      refine norm_ (a' := ?_) ?_ ?_
      rotate_left
      ·show Act.put _ (some 54) _ = _
       simp only [Act.put, sA_, sZ_, sS_, i64_w, i32_w]
       rfl
      refine pure_ (i := 6) (N := some 48) (v := ?_) (a' := ?_) #[true, true, true, true, true, true, true, false, false, false, false, false, false] rfl rfl (any_of HT_.out (by kernel_rfl)) (fun _ _ _ h => h) (Or.inl ⟨by rfl, ?_⟩) ?_ ?_
      rotate_left
      ·intro w'
       go_simp
       with_reducible rfl
      rotate_left
      ·simp only [Act.put, sA_, sZ_, sS_, i64_w, i32_w]
       rfl
      refine pure_ (i := 7) (N := some 55) (v := ?_) (a' := ?_) #[true, true, true, true, true, true, true, true, false, false, false, false, false] rfl rfl (any_of HT_.out (by kernel_rfl)) (fun _ _ _ h => h) (Or.inl ⟨by rfl, ?_⟩) ?_ ?_
      rotate_left
      ·intro w'
       go_simp
       with_reducible rfl
      rotate_left
      ·simp only [Act.put, sA_, sZ_, sS_, i64_w, i32_w]
       rfl
      refine pure_ (i := 8) (N := some 56) (v := ?_) (a' := ?_) #[true, true, true, true, true, true, true, true, true, false, false, false, false] rfl rfl (any_of HT_.out (by kernel_rfl)) (fun _ _ _ h => h) (Or.inl ⟨by rfl, ?_⟩) ?_ ?_
      rotate_left
      ·intro w'
       go_simp
       with_reducible rfl
      rotate_left
      ·simp only [Act.put, sA_, sZ_, sS_, i64_w, i32_w]
       rfl
      refine pure_ (i := 9) (N := some 57) (v := ?_) (a' := ?_) #[true, true, true, true, true, true, true, true, true, true, false, false, false] rfl rfl (any_of HT_.out (by kernel_rfl)) (fun _ _ _ h => h) (Or.inl ⟨by rfl, ?_⟩) ?_ ?_
      rotate_left
      ·intro w'
       go_simp
       with_reducible rfl
      rotate_left
      ·simp only [Act.put, sA_, sZ_, sS_, i64_w, i32_w]
       rfl
      refine pure_ (i := 10) (N := some 13) (v := ?_) (a' := ?_) #[true, true, true, true, true, true, true, true, true, true, true, false, false] rfl rfl (any_of HT_.out (by kernel_rfl)) (fun _ _ _ h => h) (Or.inl ⟨by rfl, ?_⟩) ?_ ?_
      rotate_left
      ·intro w'
       go_simp
       with_reducible rfl
      rotate_left
      ·simp only [Act.put, sA_, sZ_, sS_, i64_w, i32_w]
       rfl
      refine pure_ (i := 11) (N := some 14) (v := ?_) (a' := ?_) #[true, true, true, true, true, true, true, true, true, true, true, true, false] rfl rfl (any_of HT_.out (by kernel_rfl)) (fun _ _ _ h => h) (Or.inl ⟨by rfl, ?_⟩) ?_ ?_
      rotate_left
      ·intro w'
       go_simp
       with_reducible rfl
      rotate_left
      ·simp only [Act.put, sA_, sZ_, sS_, i64_w, i32_w]
       rfl
      refine pure_ (i := 12) (N := some 15) (v := ?_) (a' := ?_) #[true, true, true, true, true, true, true, true, true, true, true, true, true] rfl rfl (any_of HT_.out (by kernel_rfl)) (fun _ _ _ h => h) (Or.inl ⟨by rfl, ?_⟩) ?_ ?_
      rotate_left
      ·intro w'
       go_simp
       with_reducible rfl
      rotate_left
      ·simp only [Act.put, sA_, sZ_, sS_, i64_w, i32_w]
       rfl
      refine done_ (done_of HT_.out (by kernel_rfl)) ?_
      go_upto_region 7 with (first | ((with_reducible refine gate_dst (N := 59) rfl ?_); (try (refine gate_guard (by rfl) ?_; dsimp only)); refine Kd.R_make (Kd.int .u8) _ 5 rfl (N := 59) rfl 22 _ _ rfl 1025 rfl rfl Try.underlying22 (.int .u8 0) 1 info5 rfl (by decide) (by omega) 0 (ok := fun _ => True) (okp := fun _ => True) rfl (fun _ hk => hk) trivial (by omega) (by omega) (Below.refl _ _) (Nat.le_refl _) ?_; intro v216 w29 ho30 hb hg_ hnew_; clear hg_ hnew_; (first | rw [← Ny215.out] at ho30 | (simp only [Int.reduceToNat] at ho30; rw [← Ny215.out] at ho30)); have n0_ := Aside0.mk (Kd.R_elder' (by (with_reducible repeat (first | apply Kd.R_alloc | apply Kd.R_drewN | apply Kd.R_drew)); exact HO177.out) (Kd.R_base ho30) hb); have n1_ := Aside0.mk (Kd.N_elder' (by (with_reducible repeat (first | apply Kd.N_alloc | apply Kd.N_drewN | apply Kd.N_drew)); exact HO179.out) (Kd.R_base ho30) hb); have n2_ := Aside0.mk (Kd.R_elder' (by (with_reducible repeat (first | apply Kd.R_alloc | apply Kd.R_drewN | apply Kd.R_drew)); exact HO183.out) (Kd.R_base ho30) hb); have n3_ := Aside0.mk (Kd.R_elder' (by (with_reducible repeat (first | apply Kd.R_alloc | apply Kd.R_drewN | apply Kd.R_drew)); exact HO189.out) (Kd.R_base ho30) hb); have n4_ := Aside0.mk (Kd.N_elder' (by (with_reducible repeat (first | apply Kd.N_alloc | apply Kd.N_drewN | apply Kd.N_drew)); exact HO192.out) (Kd.R_base ho30) hb); have n5_ := Aside0.mk (Kd.R_elder' (by (with_reducible repeat (first | apply Kd.R_alloc | apply Kd.R_drewN | apply Kd.R_drew)); exact HO195.out) (Kd.R_base ho30) hb); have n6_ := Aside0.mk (Kd.V_elder' (by (with_reducible repeat (first | apply Kd.V_alloc | apply Kd.V_drewN | apply Kd.V_drew)); exact HO204.out) (Kd.R_base ho30) hb); have n7_ := Aside0.mk (Kd.R_elder' (by (with_reducible repeat (first | apply Kd.R_alloc | apply Kd.R_drewN | apply Kd.R_drew)); exact HO207.out) (Kd.R_base ho30) hb); have n8_ := Aside0.mk (Kd.N_elder' (by (with_reducible repeat (first | apply Kd.N_alloc | apply Kd.N_drewN | apply Kd.N_drew)); exact HO210.out) (Kd.R_base ho30) hb); have n9_ := Aside0.mk (Kd.R_elder' (by (with_reducible repeat (first | apply Kd.R_alloc | apply Kd.R_drewN | apply Kd.R_drew)); exact HO213.out) (Kd.R_base ho30) hb); have n10_ := Aside0.mk (Kd.R_lower (Kd.R_new' (Kd.R_new' (Kd.R_new' (Kd.R_new' (Kd.R_new' (Kd.R_new' ho30 (Kd.R_lt (by (with_reducible repeat (first | apply Kd.R_alloc | apply Kd.R_drewN | apply Kd.R_drew)); exact HO177.out))) (Kd.R_lt (by (with_reducible repeat (first | apply Kd.R_alloc | apply Kd.R_drewN | apply Kd.R_drew)); exact HO183.out))) (Kd.R_lt (by (with_reducible repeat (first | apply Kd.R_alloc | apply Kd.R_drewN | apply Kd.R_drew)); exact HO189.out))) (Kd.R_lt (by (with_reducible repeat (first | apply Kd.R_alloc | apply Kd.R_drewN | apply Kd.R_drew)); exact HO195.out))) (Kd.R_lt (by (with_reducible repeat (first | apply Kd.R_alloc | apply Kd.R_drewN | apply Kd.R_drew)); exact HO207.out))) (Kd.R_lt (by (with_reducible repeat (first | apply Kd.R_alloc | apply Kd.R_drewN | apply Kd.R_drew)); exact HO213.out))) (below_size (by repeat (first | (with_reducible first | exact HB.out | apply below_alloc | apply pw_below_drewN | apply below_drew1) | exact HB.out)))); have n11_ := Aside0.mk (below_step (by repeat (first | (with_reducible first | exact HB.out | apply below_alloc | apply pw_below_drewN | apply below_drew1) | exact HB.out)) hb); clear HO177; clear HO179; clear HO183; clear HO189; clear HO192; clear HO195; clear HO204; clear HO207; clear HO210; clear HO213; clear HB; have HO177 := n0_; have HO179 := n1_; have HO183 := n2_; have HO189 := n3_; have HO192 := n4_; have HO195 := n5_; have HO204 := n6_; have HO207 := n7_; have HO210 := n8_; have HO213 := n9_; have HO217 := n10_; have HB := n11_; clear n0_ n1_ n2_ n3_ n4_ n5_ n6_ n7_ n8_ n9_ n10_ n11_; clear hb ho30; obtain ⟨Ao31, co31, eo31⟩ := Kd.R_slice HO217.out; subst eo31) | ((with_reducible refine gate_callee (f := 25) rfl ?_); refine goesL_ (some 60) rfl rfl Try.func25 (by kernel_rfl) rfl #[.slice Ao31 y215.length co31] rfl (by (try simp only [List.map_toArray, List.map_cons, List.map_nil]); first | done | rfl) ?_; (with_reducible refine (frame_Wrap.calls k _ _ y215 t218 t219 _ ?side1 ?side2 A12.out).mono ?_); (case side1 => repeat (first | exact (Kd.R_reads' HO217.out).2.2 | (with_reducible refine Kd.C_alloc ?_ _) | (with_reducible refine Kd.C_drewN ?_ _) | (with_reducible refine Kd.C_drew ?_))); (case side2 => exact (Kd.R_reads' HO217.out).2.1); rintro e w32 ⟨v220, rfl, ho0, hb⟩; refine ⟨_, rfl, ?_⟩; have n0_ := Aside0.mk (Kd.R_elder' (by (with_reducible repeat (first | apply Kd.R_alloc | apply Kd.R_drewN | apply Kd.R_drew)); exact HO177.out) (Kd.R_base ho0) hb); have n1_ := Aside0.mk (Kd.N_elder' (by (with_reducible repeat (first | apply Kd.N_alloc | apply Kd.N_drewN | apply Kd.N_drew)); exact HO179.out) (Kd.R_base ho0) hb); have n2_ := Aside0.mk (Kd.R_elder' (by (with_reducible repeat (first | apply Kd.R_alloc | apply Kd.R_drewN | apply Kd.R_drew)); exact HO183.out) (Kd.R_base ho0) hb); have n3_ := Aside0.mk (Kd.R_elder' (by (with_reducible repeat (first | apply Kd.R_alloc | apply Kd.R_drewN | apply Kd.R_drew)); exact HO189.out) (Kd.R_base ho0) hb); have n4_ := Aside0.mk (Kd.N_elder' (by (with_reducible repeat (first | apply Kd.N_alloc | apply Kd.N_drewN | apply Kd.N_drew)); exact HO192.out) (Kd.R_base ho0) hb); have n5_ := Aside0.mk (Kd.R_elder' (by (with_reducible repeat (first | apply Kd.R_alloc | apply Kd.R_drewN | apply Kd.R_drew)); exact HO195.out) (Kd.R_base ho0) hb); have n6_ := Aside0.mk (Kd.V_elder' (by (with_reducible repeat (first | apply Kd.V_alloc | apply Kd.V_drewN | apply Kd.V_drew)); exact HO204.out) (Kd.R_base ho0) hb); have n7_ := Aside0.mk (Kd.R_elder' (by (with_reducible repeat (first | apply Kd.R_alloc | apply Kd.R_drewN | apply Kd.R_drew)); exact HO207.out) (Kd.R_base ho0) hb); have n8_ := Aside0.mk (Kd.N_elder' (by (with_reducible repeat (first | apply Kd.N_alloc | apply Kd.N_drewN | apply Kd.N_drew)); exact HO210.out) (Kd.R_base ho0) hb); have n9_ := Aside0.mk (Kd.R_elder' (by (with_reducible repeat (first | apply Kd.R_alloc | apply Kd.R_drewN | apply Kd.R_drew)); exact HO213.out) (Kd.R_base ho0) hb); have n10_ := Aside0.mk (Kd.R_elder' (by (with_reducible repeat (first | apply Kd.R_alloc | apply Kd.R_drewN | apply Kd.R_drew)); exact HO217.out) (Kd.R_base ho0) hb); have n11_ := Aside0.mk (Kd.R_lower (Kd.R_new' (Kd.R_new' (Kd.R_new' (Kd.R_new' (Kd.R_new' (Kd.R_new' (Kd.R_new' ho0 (Kd.R_lt (by (with_reducible repeat (first | apply Kd.R_alloc | apply Kd.R_drewN | apply Kd.R_drew)); exact HO177.out))) (Kd.R_lt (by (with_reducible repeat (first | apply Kd.R_alloc | apply Kd.R_drewN | apply Kd.R_drew)); exact HO183.out))) (Kd.R_lt (by (with_reducible repeat (first | apply Kd.R_alloc | apply Kd.R_drewN | apply Kd.R_drew)); exact HO189.out))) (Kd.R_lt (by (with_reducible repeat (first | apply Kd.R_alloc | apply Kd.R_drewN | apply Kd.R_drew)); exact HO195.out))) (Kd.R_lt (by (with_reducible repeat (first | apply Kd.R_alloc | apply Kd.R_drewN | apply Kd.R_drew)); exact HO207.out))) (Kd.R_lt (by (with_reducible repeat (first | apply Kd.R_alloc | apply Kd.R_drewN | apply Kd.R_drew)); exact HO213.out))) (Kd.R_lt (by (with_reducible repeat (first | apply Kd.R_alloc | apply Kd.R_drewN | apply Kd.R_drew)); exact HO217.out))) (below_size (by repeat (first | (with_reducible first | exact HB.out | apply below_alloc | apply pw_below_drewN | apply below_drew1) | exact HB.out)))); have n12_ := Aside0.mk (below_step (by repeat (first | (with_reducible first | exact HB.out | apply below_alloc | apply pw_below_drewN | apply below_drew1) | exact HB.out)) hb); clear HO177; clear HO179; clear HO183; clear HO189; clear HO192; clear HO195; clear HO204; clear HO207; clear HO210; clear HO213; clear HO217; clear HB; have HO177 := n0_; have HO179 := n1_; have HO183 := n2_; have HO189 := n3_; have HO192 := n4_; have HO195 := n5_; have HO204 := n6_; have HO207 := n7_; have HO210 := n8_; have HO213 := n9_; have HO217 := n10_; have HO221 := n11_; have HB := n12_; clear n0_ n1_ n2_ n3_ n4_ n5_ n6_ n7_ n8_ n9_ n10_ n11_ n12_; (try clear hb); (try clear hb2); (try clear hk); (try clear hi); (try clear ho0)))
      (try simp only [Act.put, sA_, sZ_, sS_])
      go_cut [4] (fun v4 wc => ∃ (kq : Nat) (x4_12 : Bool), v4 = .bool x4_12 ∧ Aside0 (packthreadkeep_FrameLong.j0 kq x4_12 = some r) ∧ Aside0 (kq ≤ k) ∧ Aside0 (Below w.heap.size w wc))
      case first =>
       have H := HC13.out
       clear HC13
       by_cases c33 : t175 = true
       ·subst c33
        have H1 : (if t196 = 1 then (if (t190.length : Int) = 0 then (if (t193.length : Int) = 0 then (if t214 = 0 then (if (t211.length : Int) = 3 then (packthreadkeep_FrameLong.j0 k (t219 == 1)) else (packthreadkeep_FrameLong.j0 k false)) else (packthreadkeep_FrameLong.j0 k false)) else (packthreadkeep_FrameLong.j0 k false)) else (packthreadkeep_FrameLong.j0 k false)) else (packthreadkeep_FrameLong.j0 k false)) = some r := by rw [if_pos rfl] at H; exact H
        clear H
        have H := H1
        clear H1
        by_cases c34 : t196 = 1
        ·rw [if_pos c34] at H
         have c34b0 : (t196 == 1) = true := beq_iff_eq.mpr c34
         have c34b1 : (t196 != 1) = false := bne_eq_false_iff_eq.mpr c34
         clear c34
         (first | rw [c34b0] | (simp only [i64_w, i32_w]; rw [c34b0]) | rw [c34b1] | skip)
         by_cases c35 : (t190.length : Int) = 0
         ·rw [if_pos c35] at H
          have c35b0 : ((t190.length : Int) == 0) = true := beq_iff_eq.mpr c35
          have c35b1 : ((t190.length : Int) != 0) = false := bne_eq_false_iff_eq.mpr c35
          clear c35
          by_cases c36 : (t193.length : Int) = 0
          ·rw [if_pos c36] at H
           have c36b0 : ((t193.length : Int) == 0) = true := beq_iff_eq.mpr c36
           have c36b1 : ((t193.length : Int) != 0) = false := bne_eq_false_iff_eq.mpr c36
           clear c36
           by_cases c37 : t214 = 0
           ·rw [if_pos c37] at H
            have c37b0 : (t214 == 0) = true := beq_iff_eq.mpr c37
            have c37b1 : (t214 != 0) = false := bne_eq_false_iff_eq.mpr c37
            clear c37
            by_cases c38 : (t211.length : Int) = 3
            ·rw [if_pos c38] at H
             have c38b0 : ((t211.length : Int) == 3) = true := beq_iff_eq.mpr c38
             have c38b1 : ((t211.length : Int) != 3) = false := bne_eq_false_iff_eq.mpr c38
             clear c38
             have H' := Aside0.mk H
             clear H
             obtain ⟨Ao39, co39, eo39⟩ := Kd.N_slice HO192.out
             subst eo39
             obtain ⟨Ao40, co40, eo40⟩ := Kd.R_slice HO195.out
             subst eo40
             obtain ⟨Ao41, co41, eo41⟩ := Kd.R_slice HO213.out
             subst eo41
             go_wp2
             go_meet
             case rel => exact ⟨_, ((t219 == 1)), (by first | rfl | (simp; done) | (simp [*]; done)), H', ⟨by first | omega | exact Nat.le_refl _⟩, ⟨by repeat (first | (with_reducible first | exact HB.out | apply below_alloc | apply pw_below_drewN | apply below_drew1) | exact HB.out)⟩⟩
            ·rw [if_neg c38] at H
             have c38b0 : ((t211.length : Int) == 3) = false := beq_eq_false_iff_ne.mpr c38
             have c38b1 : ((t211.length : Int) != 3) = true := bne_iff_ne.mpr c38
             have H' := Aside0.mk H
             clear H
             obtain ⟨Ao42, co42, eo42⟩ := Kd.N_slice HO192.out
             subst eo42
             obtain ⟨Ao43, co43, eo43⟩ := Kd.R_slice HO195.out
             subst eo43
             obtain ⟨Ao44, co44, eo44⟩ := Kd.R_slice HO213.out
             subst eo44
             go_wp2
             go_meet
             case rel => exact ⟨_, (false), (by first | rfl | (simp; done) | (simp [*]; done)), H', ⟨by first | omega | exact Nat.le_refl _⟩, ⟨by repeat (first | (with_reducible first | exact HB.out | apply below_alloc | apply pw_below_drewN | apply below_drew1) | exact HB.out)⟩⟩
           ·rw [if_neg c37] at H
            have c37b0 : (t214 == 0) = false := beq_eq_false_iff_ne.mpr c37
            have c37b1 : (t214 != 0) = true := bne_iff_ne.mpr c37
            have H' := Aside0.mk H
            clear H
            obtain ⟨Ao45, co45, eo45⟩ := Kd.N_slice HO192.out
            subst eo45
            obtain ⟨Ao46, co46, eo46⟩ := Kd.R_slice HO195.out
            subst eo46
            go_wp2
            go_meet
            case rel => exact ⟨_, (false), (by first | rfl | (simp; done) | (simp [*]; done)), H', ⟨by first | omega | exact Nat.le_refl _⟩, ⟨by repeat (first | (with_reducible first | exact HB.out | apply below_alloc | apply pw_below_drewN | apply below_drew1) | exact HB.out)⟩⟩
          ·rw [if_neg c36] at H
           have c36b0 : ((t193.length : Int) == 0) = false := beq_eq_false_iff_ne.mpr c36
           have c36b1 : ((t193.length : Int) != 0) = true := bne_iff_ne.mpr c36
           have c36b2 : ¬ (t193 = []) := fun h_ => c36 (by rw [h_]; rfl)
           have H' := Aside0.mk H
           clear H
           obtain ⟨Ao47, co47, eo47⟩ := Kd.N_slice HO192.out
           subst eo47
           obtain ⟨Ao48, co48, eo48⟩ := Kd.R_slice HO195.out
           subst eo48
           go_wp2
           go_meet
           case rel => exact ⟨_, (false), (by first | rfl | (simp; done) | (simp [*]; done)), H', ⟨by first | omega | exact Nat.le_refl _⟩, ⟨by repeat (first | (with_reducible first | exact HB.out | apply below_alloc | apply pw_below_drewN | apply below_drew1) | exact HB.out)⟩⟩
         ·rw [if_neg c35] at H
          have c35b0 : ((t190.length : Int) == 0) = false := beq_eq_false_iff_ne.mpr c35
          have c35b1 : ((t190.length : Int) != 0) = true := bne_iff_ne.mpr c35
          have c35b2 : ¬ (t190 = []) := fun h_ => c35 (by rw [h_]; rfl)
          have H' := Aside0.mk H
          clear H
          obtain ⟨Ao49, co49, eo49⟩ := Kd.N_slice HO192.out
          subst eo49
          go_wp2
          go_meet
          case rel => exact ⟨_, (false), (by first | rfl | (simp; done) | (simp [*]; done)), H', ⟨by first | omega | exact Nat.le_refl _⟩, ⟨by repeat (first | (with_reducible first | exact HB.out | apply below_alloc | apply pw_below_drewN | apply below_drew1) | exact HB.out)⟩⟩
        ·rw [if_neg c34] at H
         have c34b0 : (t196 == 1) = false := beq_eq_false_iff_ne.mpr c34
         have c34b1 : (t196 != 1) = true := bne_iff_ne.mpr c34
         (first | rw [c34b0] | (simp only [i64_w, i32_w]; rw [c34b0]) | rw [c34b1] | skip)
         have H' := Aside0.mk H
         clear H
         go_wp2
         go_meet
         case rel => exact ⟨_, (false), (by first | rfl | (simp; done) | (simp [*]; done)), H', ⟨by first | omega | exact Nat.le_refl _⟩, ⟨by repeat (first | (with_reducible first | exact HB.out | apply below_alloc | apply pw_below_drewN | apply below_drew1) | exact HB.out)⟩⟩
       ·replace c33 := Bool.eq_false_iff.mpr c33
        subst c33
        have H1 : (packthreadkeep_FrameLong.j0 k false) = some r := by rw [if_neg (show ¬ (false = true) by decide)] at H; exact H
        clear H
        have H := H1
        clear H1
        have H' := Aside0.mk H
        clear H
        go_wp2
        go_meet
        case rel => exact ⟨_, (false), (by first | rfl | (simp; done) | (simp [*]; done)), H', ⟨by first | omega | exact Nat.le_refl _⟩, ⟨by repeat (first | (with_reducible first | exact HB.out | apply below_alloc | apply pw_below_drewN | apply below_drew1) | exact HB.out)⟩⟩
      case rest =>
       clear HC13
       try clear c1
       try clear c2
       try clear p2
       try clear q2
       try clear c3
       try clear c5
       try clear c6
       try clear p6
       try clear c8
       try clear c8b0
       try clear c8b1
       try clear c9
       try clear c11
       try clear c11b0
       try clear c11b1
       try clear c12
       try clear c14
       try clear c24
       try clear q24
       try clear c25
       try clear c26
       try clear c33
       try clear c34
       try clear c34b0
       try clear c34b1
       try clear c35
       try clear c35b0
       try clear c35b1
       try clear c35b2
       try clear c36
       try clear c36b0
       try clear c36b1
       try clear c36b2
       try clear c37
       try clear c37b0
       try clear c37b1
       try clear c38
       try clear c38b0
       try clear c38b1
       try clear q24
       obtain ⟨kq, x4_12, rfl, HA, HJ12, HB⟩ := hcut
       cases kq with
       | zero => exact absurd HA.out (by simp [packthreadkeep_FrameLong.j0])
       | succ kj12 =>
        have H := HA.out
        clear HA
        simp only [packthreadkeep_FrameLong.j0] at H
        obtain rfl := Option.some.inj H
        go_wp2
        go_ret
        exact ⟨by first | rfl | (simp [errW_none, errW_some] <;> rfl) | (simp [*, errW_none, errW_some] <;> rfl), by repeat (first | (with_reducible first | exact HB.out | apply below_alloc | apply pw_below_drewN | apply below_drew1) | exact HB.out)⟩
     ·rw [if_neg c11] at H
      exact absurd H (by simp)
    ·rw [if_neg c9] at H
     exact absurd H (by simp)
   ·rw [if_neg c8] at H
    exact absurd H (by simp)
  ·rw [if_neg c6] at H
   exact absurd H (by simp)
 ·rw [if_neg c5] at H
  exact absurd H (by simp)

/-- THE ONE PURE STATEMENT of packthreadkeep_FrameLong: yours. -/
def packthreadkeep_FrameLong.Pure : Prop := ∀ (l0 : List (List Int)) (a1 : Int), l0.length ≤ maxLen → (∀ x, x ∈ l0 → (x.length ≤ maxLen ∧ ∀ y0_, y0_ ∈ x → (Lit.int .u8 y0_).wf = true)) → (Lit.int .i64 a1).wf = true → ∃ k, packthreadkeep_FrameLong.f k l0 a1 = some true
theorem packthreadkeep_FrameLong.walk (P : packthreadkeep_FrameLong.Pure) (a0 : Option Addr) (cap0 : Nat) (l0 : List (List Int)) (a1 : Int) (w : World) (hr0 : Kd.C (Kd.slice 5 (Kd.int .u8)) w a0 l0.length l0) (hc0 : l0.length ≤ cap0) (hf0 : l0.length ≤ maxLen ∧ ∀ x, x ∈ l0 → (x.length ≤ maxLen ∧ ∀ y0_, y0_ ∈ x → (Lit.int .u8 y0_).wf = true)) (w1 : (Lit.int .i64 a1).wf = true) :
  Calls Try.prog 12 #[.slice a0 l0.length cap0, .int .i64 a1] w fun e w' => e = .returned (.bool true) ∧ Below w.heap.size w w' := by
 obtain ⟨k, h⟩ := P l0 a1 hf0.1 hf0.2 w1
 refine (packthreadkeep_FrameLong.calls k _ _ l0 a1 true w hr0 hc0 h).mono ?_
 rintro e w' ⟨rfl, hd⟩
 exact ⟨rfl, hd⟩

end Go.Proofs.Ytknpmpfcmgjpdaa.PFrameLong
