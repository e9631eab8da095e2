/- Printed by a program of this session (wip/myprint.py): Go functions of the law as Lean functions, and the proof that the code comes to these answers. -/
import Derived.Test.YtblkhkipbcpaiaaPPatchPartsx0
import Derived.Test.YtblkhkipbcpaiaaPPatchPartsx1
namespace Go.Proofs.Ytblkhkipbcpaiaa.PPatchParts
open Go.RowKit Go.Proofs.YtblkhkipbcpaiaaW.PrintWords Go.Proofs.YtblkhkipbcpaiaaW.PrintLast Go.Proofs.YtblkhkipbcpaiaaW.PrintMore
attribute [local go_sem] max2_int min2_int max_two min_two max_three min_three max_four min_four   -- for this text's walks alone
attribute [local go_sem] pn_setCell_drewN
set_option linter.unusedVariables false
set_option linter.unusedSimpArgs false

/-! ### delta_Patch: function 16 -/
mutual
def delta_Patch.j0 : Nat → List Int → List (S42) → Bool → Option (List Int × Int)
  | 0, _, _, _ => none
  | k + 1, x0, x1, x16 => if x16 = true then (some (([] : List Int), 1)) else (delta_Patch.l0 k x0 ([] : List Int) x1 (x1.length : Int) 0)
def delta_Patch.l0 : Nat → List Int → List Int → List (S42) → Int → Int → Option (List Int × Int)
  | 0, _, _, _, _, _ => none
  | k + 1, x0, x6, x17, x18, x19 => if x19 < x18 then (if 0 ≤ x19 then (if x19 < (x17.length : Int) then (if (rd_T42 x17 x19).f0 = true then (delta_Patch.j2 k x0 x6 x17 x18 x19 (decide ((((rd_T42 x17 x19).f3).length : Int) > 0)) ((rd_T42 x17 x19).f0) ((rd_T42 x17 x19).f1) ((rd_T42 x17 x19).f2) ((rd_T42 x17 x19).f3)) else (delta_Patch.j2 k x0 x6 x17 x18 x19 false ((rd_T42 x17 x19).f0) ((rd_T42 x17 x19).f1) ((rd_T42 x17 x19).f2) ((rd_T42 x17 x19).f3))) else (none)) else (none)) else ((slices_Clone_byte_byte.f x6).bind fun t118 => (some (t118, 0)))
def delta_Patch.j2 : Nat → List Int → List Int → List (S42) → Int → Int → Bool → Bool → Int → Int → List Int → Option (List Int × Int)
  | 0, _, _, _, _, _, _, _, _, _, _ => none
  | k + 1, x0, x6, x17, x18, x19, x23, x123000, x123001, x123002, x123003 => if x23 = true then (delta_Patch.j3 k x0 x6 x17 x18 x19 x23 x123000 x123001 x123002 x123003) else (if x123000 = true then (delta_Patch.j3 k x0 x6 x17 x18 x19 false x123000 x123001 x123002 x123003) else (if x123001 = 0 then (delta_Patch.j3 k x0 x6 x17 x18 x19 (x123002 != 0) x123000 x123001 x123002 x123003) else (delta_Patch.j3 k x0 x6 x17 x18 x19 true x123000 x123001 x123002 x123003)))
def delta_Patch.j3 : Nat → List Int → List Int → List (S42) → Int → Int → Bool → Bool → Int → Int → List Int → Option (List Int × Int)
  | 0, _, _, _, _, _, _, _, _, _, _ => none
  | k + 1, x0, x6, x17, x18, x19, x23, x123000, x123001, x123002, x123003 => if x23 = true then (some (([] : List Int), 4)) else (if x123001 < 0 then (delta_Patch.j4 k x0 x6 x17 x18 x19 true x123000 x123001 x123002 x123003) else (if x123002 < 0 then (delta_Patch.j4 k x0 x6 x17 x18 x19 true x123000 x123001 x123002 x123003) else (if x123001 > (x0.length : Int) then (delta_Patch.j4 k x0 x6 x17 x18 x19 true x123000 x123001 x123002 x123003) else (delta_Patch.j4 k x0 x6 x17 x18 x19 (decide (x123002 > (wrap64 ((x0.length : Int) - x123001)))) x123000 x123001 x123002 x123003))))
def delta_Patch.j4 : Nat → List Int → List Int → List (S42) → Int → Int → Bool → Bool → Int → Int → List Int → Option (List Int × Int)
  | 0, _, _, _, _, _, _, _, _, _, _ => none
  | k + 1, x0, x6, x17, x18, x19, x45, x123000, x123001, x123002, x123003 => if x45 = true then (some (([] : List Int), 2)) else (if 0 ≤ x123001 then (if x123001 ≤ (wrap64 (x123001 + x123002)) then (if (wrap64 (x123001 + x123002)) ≤ (x0.length : Int) then (if x6.length + ((x0.take ((wrap64 (x123001 + x123002)) : Int).toNat).drop (x123001 : Int).toNat).length < 140737488355328 then ((some (x6 ++ ((x0.take ((wrap64 (x123001 + x123002)) : Int).toNat).drop (x123001 : Int).toNat) : List Int)).bind fun y124 => (if y124.length + x123003.length < 140737488355328 then ((some (y124 ++ x123003 : List Int)).bind fun y127 => (if (y127.length : Int) > 2048 then (some (([] : List Int), 11)) else (delta_Patch.l0 k x0 y127 x17 x18 (wrap64 (x19 + 1))))) else (none))) else (none)) else (none)) else (none)) else (none))
end
def delta_Patch.f (k : Nat) (l0 : List Int) (l1 : List (S42)) : Option (List Int × Int) := if (l0.length : Int) > 2048 then (delta_Patch.j0 k l0 l1 true) else (delta_Patch.j0 k l0 l1 (decide ((l1.length : Int) > 2048)))
theorem delta_Patch.mono_l : ∀ k, (∀ y0 y1 y2, LeO (delta_Patch.j0 k y0 y1 y2) (delta_Patch.j0 (k + 1) y0 y1 y2)) ∧ (∀ y0 y1 y2 y3 y4, LeO (delta_Patch.l0 k y0 y1 y2 y3 y4) (delta_Patch.l0 (k + 1) y0 y1 y2 y3 y4)) ∧ (∀ y0 y1 y2 y3 y4 y5 y6 y7 y8 y9, LeO (delta_Patch.j2 k y0 y1 y2 y3 y4 y5 y6 y7 y8 y9) (delta_Patch.j2 (k + 1) y0 y1 y2 y3 y4 y5 y6 y7 y8 y9)) ∧ (∀ y0 y1 y2 y3 y4 y5 y6 y7 y8 y9, LeO (delta_Patch.j3 k y0 y1 y2 y3 y4 y5 y6 y7 y8 y9) (delta_Patch.j3 (k + 1) y0 y1 y2 y3 y4 y5 y6 y7 y8 y9)) ∧ (∀ y0 y1 y2 y3 y4 y5 y6 y7 y8 y9, LeO (delta_Patch.j4 k y0 y1 y2 y3 y4 y5 y6 y7 y8 y9) (delta_Patch.j4 (k + 1) y0 y1 y2 y3 y4 y5 y6 y7 y8 y9))
  | 0 => ⟨fun _ _ _ r h => by simp [delta_Patch.j0] at h, fun _ _ _ _ _ r h => by simp [delta_Patch.l0] at h, fun _ _ _ _ _ _ _ _ _ _ r h => by simp [delta_Patch.j2] at h, fun _ _ _ _ _ _ _ _ _ _ r h => by simp [delta_Patch.j3] at h, fun _ _ _ _ _ _ _ _ _ _ r h => by simp [delta_Patch.j4] at h⟩
  | k + 1 => by
    obtain ⟨ih0, ih1, ih2, ih3, ih4⟩ := delta_Patch.mono_l k
    refine ⟨?_, ?_, ?_, ?_, ?_⟩
    · intro y0 y1 y2
      unfold delta_Patch.j0
      repeat' first
      | (with_reducible exact ih0 _ _ _)
      | (with_reducible exact ih1 _ _ _ _ _)
      | (with_reducible exact ih2 _ _ _ _ _ _ _ _ _ _)
      | (with_reducible exact ih3 _ _ _ _ _ _ _ _ _ _)
      | (with_reducible exact ih4 _ _ _ _ _ _ _ _ _ _)
      | (with_reducible exact LeO.refl _)
      | (with_reducible exact LeO.none _)
      | (with_reducible refine LeO.ite ?_ ?_)
      | (with_reducible refine LeO.bind ?_ (fun _ => ?_))
      | exact ih0 _ _ _
      | exact ih1 _ _ _ _ _
      | exact ih2 _ _ _ _ _ _ _ _ _ _
      | exact ih3 _ _ _ _ _ _ _ _ _ _
      | exact ih4 _ _ _ _ _ _ _ _ _ _
      | exact LeO.none _
      | refine LeO.ite ?_ ?_
      | refine LeO.bind ?_ (fun _ => ?_)
    · intro y0 y1 y2 y3 y4
      unfold delta_Patch.l0
      repeat' first
      | (with_reducible exact ih0 _ _ _)
      | (with_reducible exact ih1 _ _ _ _ _)
      | (with_reducible exact ih2 _ _ _ _ _ _ _ _ _ _)
      | (with_reducible exact ih3 _ _ _ _ _ _ _ _ _ _)
      | (with_reducible exact ih4 _ _ _ _ _ _ _ _ _ _)
      | (with_reducible exact LeO.refl _)
      | (with_reducible exact LeO.none _)
      | (with_reducible refine LeO.ite ?_ ?_)
      | (with_reducible refine LeO.bind ?_ (fun _ => ?_))
      | exact ih0 _ _ _
      | exact ih1 _ _ _ _ _
      | exact ih2 _ _ _ _ _ _ _ _ _ _
      | exact ih3 _ _ _ _ _ _ _ _ _ _
      | exact ih4 _ _ _ _ _ _ _ _ _ _
      | exact LeO.none _
      | refine LeO.ite ?_ ?_
      | refine LeO.bind ?_ (fun _ => ?_)
    · intro y0 y1 y2 y3 y4 y5 y6 y7 y8 y9
      unfold delta_Patch.j2
      repeat' first
      | (with_reducible exact ih0 _ _ _)
      | (with_reducible exact ih1 _ _ _ _ _)
      | (with_reducible exact ih2 _ _ _ _ _ _ _ _ _ _)
      | (with_reducible exact ih3 _ _ _ _ _ _ _ _ _ _)
      | (with_reducible exact ih4 _ _ _ _ _ _ _ _ _ _)
      | (with_reducible exact LeO.refl _)
      | (with_reducible exact LeO.none _)
      | (with_reducible refine LeO.ite ?_ ?_)
      | (with_reducible refine LeO.bind ?_ (fun _ => ?_))
      | exact ih0 _ _ _
      | exact ih1 _ _ _ _ _
      | exact ih2 _ _ _ _ _ _ _ _ _ _
      | exact ih3 _ _ _ _ _ _ _ _ _ _
      | exact ih4 _ _ _ _ _ _ _ _ _ _
      | exact LeO.none _
      | refine LeO.ite ?_ ?_
      | refine LeO.bind ?_ (fun _ => ?_)
    · intro y0 y1 y2 y3 y4 y5 y6 y7 y8 y9
      unfold delta_Patch.j3
      repeat' first
      | (with_reducible exact ih0 _ _ _)
      | (with_reducible exact ih1 _ _ _ _ _)
      | (with_reducible exact ih2 _ _ _ _ _ _ _ _ _ _)
      | (with_reducible exact ih3 _ _ _ _ _ _ _ _ _ _)
      | (with_reducible exact ih4 _ _ _ _ _ _ _ _ _ _)
      | (with_reducible exact LeO.refl _)
      | (with_reducible exact LeO.none _)
      | (with_reducible refine LeO.ite ?_ ?_)
      | (with_reducible refine LeO.bind ?_ (fun _ => ?_))
      | exact ih0 _ _ _
      | exact ih1 _ _ _ _ _
      | exact ih2 _ _ _ _ _ _ _ _ _ _
      | exact ih3 _ _ _ _ _ _ _ _ _ _
      | exact ih4 _ _ _ _ _ _ _ _ _ _
      | exact LeO.none _
      | refine LeO.ite ?_ ?_
      | refine LeO.bind ?_ (fun _ => ?_)
    · intro y0 y1 y2 y3 y4 y5 y6 y7 y8 y9
      unfold delta_Patch.j4
      repeat' first
      | (with_reducible exact ih0 _ _ _)
      | (with_reducible exact ih1 _ _ _ _ _)
      | (with_reducible exact ih2 _ _ _ _ _ _ _ _ _ _)
      | (with_reducible exact ih3 _ _ _ _ _ _ _ _ _ _)
      | (with_reducible exact ih4 _ _ _ _ _ _ _ _ _ _)
      | (with_reducible exact LeO.refl _)
      | (with_reducible exact LeO.none _)
      | (with_reducible refine LeO.ite ?_ ?_)
      | (with_reducible refine LeO.bind ?_ (fun _ => ?_))
      | exact ih0 _ _ _
      | exact ih1 _ _ _ _ _
      | exact ih2 _ _ _ _ _ _ _ _ _ _
      | exact ih3 _ _ _ _ _ _ _ _ _ _
      | exact ih4 _ _ _ _ _ _ _ _ _ _
      | exact LeO.none _
      | refine LeO.ite ?_ ?_
      | refine LeO.bind ?_ (fun _ => ?_)
theorem delta_Patch.mono : ∀ a0 a1 k, LeO (delta_Patch.f k a0 a1) (delta_Patch.f (k + 1) a0 a1) := by
  intro a0 a1 k
  obtain ⟨ih0, ih1, ih2, ih3, ih4⟩ := delta_Patch.mono_l k
  unfold delta_Patch.f
  repeat' first
      | (with_reducible exact ih0 _ _ _)
      | (with_reducible exact ih1 _ _ _ _ _)
      | (with_reducible exact ih2 _ _ _ _ _ _ _ _ _ _)
      | (with_reducible exact ih3 _ _ _ _ _ _ _ _ _ _)
      | (with_reducible exact ih4 _ _ _ _ _ _ _ _ _ _)
      | (with_reducible exact LeO.refl _)
      | (with_reducible exact LeO.none _)
      | (with_reducible refine LeO.ite ?_ ?_)
      | (with_reducible refine LeO.bind ?_ (fun _ => ?_))
      | exact ih0 _ _ _
      | exact ih1 _ _ _ _ _
      | exact ih2 _ _ _ _ _ _ _ _ _ _
      | exact ih3 _ _ _ _ _ _ _ _ _ _
      | exact ih4 _ _ _ _ _ _ _ _ _ _
      | exact LeO.none _
      | refine LeO.ite ?_ ?_
      | refine LeO.bind ?_ (fun _ => ?_)
def delta_Patch.T12 : Bool × List (List Nat × List Nat) := (true, [([], []), ([], []), ([], []), ([2], [2]), ([], []), ([4], [4]), ([], []), ([6], [6]), ([5, 7], [5, 7]), ([1, 3, 8], [1, 3, 8]), ([0, 9], [0, 9]), ([], []), ([11], [11]), ([10, 12, 10], [10, 12]), ([13, 13, 0, 1, 2, 3, 4, 5, 6, 7, 8, 9, 10, 11, 12, 13], [0, 13])])
def delta_Patch.B12 : List Nat := [0, 0, 0, 4, 0, 16, 0, 64, 240, 510, 1023, 0, 2048, 8191, 16383]
theorem delta_Patch.tab12 : rtab .any (opsOf Try.f16 12) = delta_Patch.T12 := by kernel_rfl
theorem delta_Patch.bits12 : waitsOk delta_Patch.T12.2 delta_Patch.B12 = true := by kernel_rfl
set_option maxHeartbeats 8000000 in
set_option maxRecDepth 100000 in
theorem delta_Patch.calls (k : Nat) (A0 : Option Addr) (c0 : Nat) (l0 : List Int) (A1 : Option Addr) (c1 : Nat) (l1 : List (S42)) (r1 : List Int) (r2 : Int) (w : World) (hr0 : Kd.C (Kd.int .u8) w A0 l0.length l0) (hc0 : l0.length ≤ c0) (hr1 : Kd.C k42 w A1 l1.length l1) (hc1 : l1.length ≤ c1) (h : delta_Patch.f k l0 l1 = some (r1, r2)) :
    Calls Try.prog 16 #[.slice A0 l0.length c0, .slice A1 l1.length c1] w fun e w' => ∃ v0_ : Value, e = .returned (.tuple #[v0_, .int .i64 r2]) ∧ Kd.R (Kd.int .u8) 5 w' w.heap.size (fun _ => True) v0_ r1 ∧ Below w.heap.size w w' := by
  have hu42 := Try.underlying42
  have HR0 := Aside0.mk hr0
  have HC0 := Aside0.mk hc0
  clear hr0 hc0
  have HR1 := Aside0.mk hr1
  have HC1 := Aside0.mk hc1
  clear hr1 hc1
  have HB := Aside0.mk (Below.refl w.heap.size w)
  have H : (if (l0.length : Int) > 2048 then (delta_Patch.j0 k l0 l1 true) else (delta_Patch.j0 k l0 l1 (decide ((l1.length : Int) > 2048)))) = some (r1, r2) := h
  clear h
  have HC3 := Aside0.mk H
  clear H
  go_enter Try.func16, Try.ntmps16
  go_upto_region 1 with (fail)
  go_cut [16] (fun v16 wc => ∃ (kq : Nat) (x16_2 : Bool), v16 = .bool x16_2 ∧ Aside0 (delta_Patch.j0 kq l0 l1 x16_2 = some (r1, r2)) ∧ Aside0 (kq ≤ k) ∧ Aside0 (Below w.heap.size w wc))
  case first =>
    have H := HC3.out
    clear HC3
    by_cases c4 : (l0.length : Int) > 2048
    · rw [if_pos c4] at H
      have c4b0 : decide (2048 < (l0.length : Int)) = true := decide_eq_true c4
      have c4b1 : decide (2048 < l0.length) = true := decide_eq_true (by omega)
      clear c4
      (first | rw [c4b0] | (simp only [i64_w, i32_w]; rw [c4b0]) | rw [c4b1] | skip)
      have H' := Aside0.mk H
      clear H
      go_wp2
      go_meet
      case rel => exact ⟨_, (true), (by first | rfl | (simp; done) | (simp [*]; done)), H', ⟨by first | omega | exact Nat.le_refl _⟩, ⟨by repeat (first | (with_reducible first | exact HB.out | apply below_alloc | apply pw_below_drewN | apply below_drew1) | exact HB.out)⟩⟩
    · rw [if_neg c4] at H
      have c4b0 : decide (2048 < (l0.length : Int)) = false := decide_eq_false c4
      have c4b1 : decide (2048 < l0.length) = false := decide_eq_false (by omega)
      clear c4
      (first | rw [c4b0] | (simp only [i64_w, i32_w]; rw [c4b0]) | rw [c4b1] | skip)
      have H' := Aside0.mk H
      clear H
      go_wp2
      go_meet
      case rel => exact ⟨_, (decide ((l1.length : Int) > 2048)), (by first | rfl | (simp; done) | (simp [*]; done)), H', ⟨by first | omega | exact Nat.le_refl _⟩, ⟨by repeat (first | (with_reducible first | exact HB.out | apply below_alloc | apply pw_below_drewN | apply below_drew1) | exact HB.out)⟩⟩
  case rest =>
    clear HC3
    try clear c1
    try clear p2
    try clear c4
    try clear c4b0
    try clear c4b1
    obtain ⟨kq, x16_2, rfl, HA, HJ2, HB⟩ := hcut
    cases kq with
    | zero => exact absurd HA.out (by simp [delta_Patch.j0])
    | succ kj2 =>
      have H := HA.out
      clear HA
      simp only [delta_Patch.j0] at H
      by_cases c5 : x16_2 = true
      · subst c5
        have H1 : (some (([] : List Int), 1)) = some (r1, r2) := by rw [if_pos rfl] at H; exact H
        clear H
        have H := H1
        clear H1
        simp only [Option.some.injEq, Prod.mk.injEq] at H
        obtain ⟨rfl, rfl⟩ := H
        go_wp2
        go_ret2
        exact ⟨_, by first | rfl | (simp [errW_none, errW_some] <;> rfl) | (simp [*, errW_none, errW_some] <;> rfl), by first | exact Kd.R_nil _ _ _ _ _ | exact Kd.N_nil _ _ _ _ _ | exact Kd.V_nil _ _ _ _ _ | exact Kd.Q_nil _ _ _ _ _ | exact Kd.S_nil _ _ _ _ _, by repeat (first | (with_reducible first | exact HB.out | apply below_alloc | apply pw_below_drewN | apply below_drew1) | exact HB.out)⟩
      · replace c5 := Bool.eq_false_iff.mpr c5
        subst c5
        have H1 : (delta_Patch.l0 kj2 l0 ([] : List Int) l1 (l1.length : Int) 0) = some (r1, r2) := by rw [if_neg (show ¬ (false = true) by decide)] at H; exact H
        clear H
        have H := H1
        clear H1
        have H' := Aside0.mk H
        clear H
        go_wp2
        go_loopg [6, 19] kj2 (fun kq v6 v19 w' => ∃ (x6_2 : List Int) (x19_2 : Int), v19 = .int .i64 x19_2 ∧ Aside0 (delta_Patch.l0 kq l0 x6_2 l1 (l1.length : Int) x19_2 = some (r1, r2)) ∧ Aside0 (kq ≤ kj2) ∧ Aside0 (Kd.R (Kd.int .u8) 5 w' w.heap.size (fun _ => True) v6 x6_2) ∧ Aside0 (Below w.heap.size w w'))
        case atStart => exact ⟨(([] : List Int)), (0), (by first | rfl | (simp; done) | (simp [*]; done)), H', ⟨Nat.le_refl _⟩, ⟨by first | exact Kd.R_nil _ _ _ _ _ | exact Kd.N_nil _ _ _ _ _ | exact Kd.V_nil _ _ _ _ _ | exact Kd.Q_nil _ _ _ _ _ | exact Kd.S_nil _ _ _ _ _⟩, ⟨by repeat (first | (with_reducible first | exact HB.out | apply below_alloc | apply pw_below_drewN | apply below_drew1) | exact HB.out)⟩⟩
        case round =>
          clear H'
          try clear c1
          try clear p2
          try clear c4
          try clear c4b0
          try clear c4b1
          try clear c5
          try clear p2
          obtain ⟨x6_2, x19_2, rfl, HA, HK2, HO_6, HB⟩ := hrel
          cases gk with
          | zero => exact absurd HA.out (by simp [delta_Patch.l0])
          | succ k2 =>
            have H := HA.out
            clear HA
            simp only [delta_Patch.l0] at H
            by_cases c6 : x19_2 < (l1.length : Int)
            · rw [if_pos c6] at H
              have c6b0 : decide (x19_2 < (l1.length : Int)) = true := decide_eq_true c6
              clear c6
              by_cases c7 : 0 ≤ x19_2
              · rw [if_pos c7] at H
                have c7b0 : decide (0 ≤ x19_2) = true := decide_eq_true c7
                clear c7
                by_cases c8 : x19_2 < (l1.length : Int)
                · rw [if_pos c8] at H
                  have c8b0 : decide (x19_2 < (l1.length : Int)) = true := decide_eq_true c8
                  clear c8
                  have HC9 := Aside0.mk H
                  clear H
                  have p121 : 0 ≤ (x19_2 : Int) := of_decide_eq_true (by first | (with_reducible assumption) | assumption)
                  have q121 : x19_2 < (l1.length : Int) := of_decide_eq_true (by first | (with_reducible assumption) | assumption)
                  obtain ⟨ad121, A121_3, c121_3, e121, hx121_0, hx121_1, hx121_2, hx121_3, hl121_3, hi121_3⟩ := at_T42 HR1.out x19_2 p121 q121
                  cases e121
                  replace hx121_0 := (HB.out.cell (World.block_lt_of_cell? w _ hx121_0)).trans hx121_0
                  replace hx121_1 := (HB.out.cell (World.block_lt_of_cell? w _ hx121_1)).trans hx121_1
                  replace hx121_2 := (HB.out.cell (World.block_lt_of_cell? w _ hx121_2)).trans hx121_2
                  replace hx121_3 := (HB.out.cell (World.block_lt_of_cell? w _ hx121_3)).trans hx121_3
                  have HR121_3 := Aside0.mk hi121_3
                  have HC121_3 := Aside0.mk hl121_3
                  clear hi121_3 hl121_3
                  replace p121 := eq_true p121
                  replace q121 := eq_true q121
                  go_upto_region 7 with (first | ((with_reducible refine gate_dst (N := 8) rfl ?_); (try (refine gate_guard (by rfl) ?_; dsimp only)); refine box_event ?hg (N := 8) ?hd (cs := #[.bool false, .int .i64 0, .int .i64 0, .slice none 0 0]) (t := 42) ?hr ?_; (case hd => rfl); (case hg => rfl); (case hr => first | (go_simp; done) | (go_simp; rfl)); intro gb122 hg w10 hbox hb; have n0_ := Aside0.mk (Kd.R_below (by (with_reducible repeat (first | apply Kd.R_alloc | apply Kd.R_drewN | apply Kd.R_drew)); exact HO_6.out) hb); have n1_ := Aside0.mk (below_step (by repeat (first | (with_reducible first | exact HB.out | apply below_alloc | apply pw_below_drewN | apply below_drew1) | exact HB.out)) hb); have n2_ := Aside0.mk (hbox); have n3_ := Aside0.mk ((by rw [hg]; exact (below_size (by repeat (first | (with_reducible first | exact HB.out | apply below_alloc | apply pw_below_drewN | apply below_drew1) | exact HB.out))) : w.heap.size ≤ gb122)); have n4_ := Aside0.mk ((by rw [hg]; exact (below_size (by repeat (first | (with_reducible first | exact HB.out | apply below_alloc | apply pw_below_drewN | apply below_drew1) | exact HB.out))) : w.heap.size ≤ gb122)); clear HO_6; clear HB; have HO_6 := n0_; have HB := n1_; have BK122 := n2_; have GW122 := n3_; have GE122 := n4_; clear n0_ n1_ n2_ n3_ n4_; clear hb hbox hg; have hcz11_0 : w10.cell? ⟨gb122, 0, none⟩ = some (.bool false) := (blk_cell BK122.out 0).trans rfl; have hcz11_1 : w10.cell? ⟨gb122, 1, none⟩ = some (.int .i64 0) := (blk_cell BK122.out 1).trans rfl; have hcz11_2 : w10.cell? ⟨gb122, 2, none⟩ = some (.int .i64 0) := (blk_cell BK122.out 2).trans rfl; have hcz11_3 : w10.cell? ⟨gb122, 3, none⟩ = some (.slice none 0 0) := (blk_cell BK122.out 3).trans rfl; have hfz11_0 := blk_frozen BK122.out 0; have hfz11_1 := blk_frozen BK122.out 1; have hfz11_2 := blk_frozen BK122.out 2; have hfz11_3 := blk_frozen BK122.out 3; have hcz12_0 : (w10.setCell ⟨gb122, 0, none⟩ (.bool ((rd_T42 l1 x19_2).f0))).cell? ⟨gb122, 0, none⟩ = some (.bool ((rd_T42 l1 x19_2).f0)) := (blk_cell (show (w10.setCell ⟨gb122, 0, none⟩ (.bool ((rd_T42 l1 x19_2).f0))).heap[gb122]? = some (.cells #[.bool ((rd_T42 l1 x19_2).f0), .int .i64 0, .int .i64 0, .slice none 0 0] 42 (0, 0)) from by (with_reducible repeat (first | refine blk_drewN ?_ _ | refine blk_drew ?_ | refine blk_alloc ?_ _)); refine blk_put (cs := #[.bool false, .int .i64 0, .int .i64 0, .slice none 0 0]) ?_ 0 _ rfl; (with_reducible repeat (first | refine blk_drewN ?_ _ | refine blk_drew ?_ | refine blk_alloc ?_ _)); exact BK122.out) 0).trans rfl; have hcz12_1 : (w10.setCell ⟨gb122, 0, none⟩ (.bool ((rd_T42 l1 x19_2).f0))).cell? ⟨gb122, 1, none⟩ = some (.int .i64 0) := (blk_cell (show (w10.setCell ⟨gb122, 0, none⟩ (.bool ((rd_T42 l1 x19_2).f0))).heap[gb122]? = some (.cells #[.bool ((rd_T42 l1 x19_2).f0), .int .i64 0, .int .i64 0, .slice none 0 0] 42 (0, 0)) from by (with_reducible repeat (first | refine blk_drewN ?_ _ | refine blk_drew ?_ | refine blk_alloc ?_ _)); refine blk_put (cs := #[.bool false, .int .i64 0, .int .i64 0, .slice none 0 0]) ?_ 0 _ rfl; (with_reducible repeat (first | refine blk_drewN ?_ _ | refine blk_drew ?_ | refine blk_alloc ?_ _)); exact BK122.out) 1).trans rfl; have hcz12_2 : (w10.setCell ⟨gb122, 0, none⟩ (.bool ((rd_T42 l1 x19_2).f0))).cell? ⟨gb122, 2, none⟩ = some (.int .i64 0) := (blk_cell (show (w10.setCell ⟨gb122, 0, none⟩ (.bool ((rd_T42 l1 x19_2).f0))).heap[gb122]? = some (.cells #[.bool ((rd_T42 l1 x19_2).f0), .int .i64 0, .int .i64 0, .slice none 0 0] 42 (0, 0)) from by (with_reducible repeat (first | refine blk_drewN ?_ _ | refine blk_drew ?_ | refine blk_alloc ?_ _)); refine blk_put (cs := #[.bool false, .int .i64 0, .int .i64 0, .slice none 0 0]) ?_ 0 _ rfl; (with_reducible repeat (first | refine blk_drewN ?_ _ | refine blk_drew ?_ | refine blk_alloc ?_ _)); exact BK122.out) 2).trans rfl; have hcz12_3 : (w10.setCell ⟨gb122, 0, none⟩ (.bool ((rd_T42 l1 x19_2).f0))).cell? ⟨gb122, 3, none⟩ = some (.slice none 0 0) := (blk_cell (show (w10.setCell ⟨gb122, 0, none⟩ (.bool ((rd_T42 l1 x19_2).f0))).heap[gb122]? = some (.cells #[.bool ((rd_T42 l1 x19_2).f0), .int .i64 0, .int .i64 0, .slice none 0 0] 42 (0, 0)) from by (with_reducible repeat (first | refine blk_drewN ?_ _ | refine blk_drew ?_ | refine blk_alloc ?_ _)); refine blk_put (cs := #[.bool false, .int .i64 0, .int .i64 0, .slice none 0 0]) ?_ 0 _ rfl; (with_reducible repeat (first | refine blk_drewN ?_ _ | refine blk_drew ?_ | refine blk_alloc ?_ _)); exact BK122.out) 3).trans rfl; have hcz13_0 : ((w10.setCell ⟨gb122, 0, none⟩ (.bool ((rd_T42 l1 x19_2).f0))).setCell ⟨gb122, 1, none⟩ (.int .i64 ((rd_T42 l1 x19_2).f1))).cell? ⟨gb122, 0, none⟩ = some (.bool ((rd_T42 l1 x19_2).f0)) := (blk_cell (show ((w10.setCell ⟨gb122, 0, none⟩ (.bool ((rd_T42 l1 x19_2).f0))).setCell ⟨gb122, 1, none⟩ (.int .i64 ((rd_T42 l1 x19_2).f1))).heap[gb122]? = some (.cells #[.bool ((rd_T42 l1 x19_2).f0), .int .i64 ((rd_T42 l1 x19_2).f1), .int .i64 0, .slice none 0 0] 42 (0, 0)) from by (with_reducible repeat (first | refine blk_drewN ?_ _ | refine blk_drew ?_ | refine blk_alloc ?_ _)); refine blk_put (cs := #[.bool ((rd_T42 l1 x19_2).f0), .int .i64 0, .int .i64 0, .slice none 0 0]) ?_ 1 _ rfl; (with_reducible repeat (first | refine blk_drewN ?_ _ | refine blk_drew ?_ | refine blk_alloc ?_ _)); refine blk_put (cs := #[.bool false, .int .i64 0, .int .i64 0, .slice none 0 0]) ?_ 0 _ rfl; (with_reducible repeat (first | refine blk_drewN ?_ _ | refine blk_drew ?_ | refine blk_alloc ?_ _)); exact BK122.out) 0).trans rfl; have hcz13_1 : ((w10.setCell ⟨gb122, 0, none⟩ (.bool ((rd_T42 l1 x19_2).f0))).setCell ⟨gb122, 1, none⟩ (.int .i64 ((rd_T42 l1 x19_2).f1))).cell? ⟨gb122, 1, none⟩ = some (.int .i64 ((rd_T42 l1 x19_2).f1)) := (blk_cell (show ((w10.setCell ⟨gb122, 0, none⟩ (.bool ((rd_T42 l1 x19_2).f0))).setCell ⟨gb122, 1, none⟩ (.int .i64 ((rd_T42 l1 x19_2).f1))).heap[gb122]? = some (.cells #[.bool ((rd_T42 l1 x19_2).f0), .int .i64 ((rd_T42 l1 x19_2).f1), .int .i64 0, .slice none 0 0] 42 (0, 0)) from by (with_reducible repeat (first | refine blk_drewN ?_ _ | refine blk_drew ?_ | refine blk_alloc ?_ _)); refine blk_put (cs := #[.bool ((rd_T42 l1 x19_2).f0), .int .i64 0, .int .i64 0, .slice none 0 0]) ?_ 1 _ rfl; (with_reducible repeat (first | refine blk_drewN ?_ _ | refine blk_drew ?_ | refine blk_alloc ?_ _)); refine blk_put (cs := #[.bool false, .int .i64 0, .int .i64 0, .slice none 0 0]) ?_ 0 _ rfl; (with_reducible repeat (first | refine blk_drewN ?_ _ | refine blk_drew ?_ | refine blk_alloc ?_ _)); exact BK122.out) 1).trans rfl; have hcz13_2 : ((w10.setCell ⟨gb122, 0, none⟩ (.bool ((rd_T42 l1 x19_2).f0))).setCell ⟨gb122, 1, none⟩ (.int .i64 ((rd_T42 l1 x19_2).f1))).cell? ⟨gb122, 2, none⟩ = some (.int .i64 0) := (blk_cell (show ((w10.setCell ⟨gb122, 0, none⟩ (.bool ((rd_T42 l1 x19_2).f0))).setCell ⟨gb122, 1, none⟩ (.int .i64 ((rd_T42 l1 x19_2).f1))).heap[gb122]? = some (.cells #[.bool ((rd_T42 l1 x19_2).f0), .int .i64 ((rd_T42 l1 x19_2).f1), .int .i64 0, .slice none 0 0] 42 (0, 0)) from by (with_reducible repeat (first | refine blk_drewN ?_ _ | refine blk_drew ?_ | refine blk_alloc ?_ _)); refine blk_put (cs := #[.bool ((rd_T42 l1 x19_2).f0), .int .i64 0, .int .i64 0, .slice none 0 0]) ?_ 1 _ rfl; (with_reducible repeat (first | refine blk_drewN ?_ _ | refine blk_drew ?_ | refine blk_alloc ?_ _)); refine blk_put (cs := #[.bool false, .int .i64 0, .int .i64 0, .slice none 0 0]) ?_ 0 _ rfl; (with_reducible repeat (first | refine blk_drewN ?_ _ | refine blk_drew ?_ | refine blk_alloc ?_ _)); exact BK122.out) 2).trans rfl; have hcz13_3 : ((w10.setCell ⟨gb122, 0, none⟩ (.bool ((rd_T42 l1 x19_2).f0))).setCell ⟨gb122, 1, none⟩ (.int .i64 ((rd_T42 l1 x19_2).f1))).cell? ⟨gb122, 3, none⟩ = some (.slice none 0 0) := (blk_cell (show ((w10.setCell ⟨gb122, 0, none⟩ (.bool ((rd_T42 l1 x19_2).f0))).setCell ⟨gb122, 1, none⟩ (.int .i64 ((rd_T42 l1 x19_2).f1))).heap[gb122]? = some (.cells #[.bool ((rd_T42 l1 x19_2).f0), .int .i64 ((rd_T42 l1 x19_2).f1), .int .i64 0, .slice none 0 0] 42 (0, 0)) from by (with_reducible repeat (first | refine blk_drewN ?_ _ | refine blk_drew ?_ | refine blk_alloc ?_ _)); refine blk_put (cs := #[.bool ((rd_T42 l1 x19_2).f0), .int .i64 0, .int .i64 0, .slice none 0 0]) ?_ 1 _ rfl; (with_reducible repeat (first | refine blk_drewN ?_ _ | refine blk_drew ?_ | refine blk_alloc ?_ _)); refine blk_put (cs := #[.bool false, .int .i64 0, .int .i64 0, .slice none 0 0]) ?_ 0 _ rfl; (with_reducible repeat (first | refine blk_drewN ?_ _ | refine blk_drew ?_ | refine blk_alloc ?_ _)); exact BK122.out) 3).trans rfl; have hcz14_0 : (((w10.setCell ⟨gb122, 0, none⟩ (.bool ((rd_T42 l1 x19_2).f0))).setCell ⟨gb122, 1, none⟩ (.int .i64 ((rd_T42 l1 x19_2).f1))).setCell ⟨gb122, 2, none⟩ (.int .i64 ((rd_T42 l1 x19_2).f2))).cell? ⟨gb122, 0, none⟩ = some (.bool ((rd_T42 l1 x19_2).f0)) := (blk_cell (show (((w10.setCell ⟨gb122, 0, none⟩ (.bool ((rd_T42 l1 x19_2).f0))).setCell ⟨gb122, 1, none⟩ (.int .i64 ((rd_T42 l1 x19_2).f1))).setCell ⟨gb122, 2, none⟩ (.int .i64 ((rd_T42 l1 x19_2).f2))).heap[gb122]? = some (.cells #[.bool ((rd_T42 l1 x19_2).f0), .int .i64 ((rd_T42 l1 x19_2).f1), .int .i64 ((rd_T42 l1 x19_2).f2), .slice none 0 0] 42 (0, 0)) from by (with_reducible repeat (first | refine blk_drewN ?_ _ | refine blk_drew ?_ | refine blk_alloc ?_ _)); refine blk_put (cs := #[.bool ((rd_T42 l1 x19_2).f0), .int .i64 ((rd_T42 l1 x19_2).f1), .int .i64 0, .slice none 0 0]) ?_ 2 _ rfl; (with_reducible repeat (first | refine blk_drewN ?_ _ | refine blk_drew ?_ | refine blk_alloc ?_ _)); refine blk_put (cs := #[.bool ((rd_T42 l1 x19_2).f0), .int .i64 0, .int .i64 0, .slice none 0 0]) ?_ 1 _ rfl; (with_reducible repeat (first | refine blk_drewN ?_ _ | refine blk_drew ?_ | refine blk_alloc ?_ _)); refine blk_put (cs := #[.bool false, .int .i64 0, .int .i64 0, .slice none 0 0]) ?_ 0 _ rfl; (with_reducible repeat (first | refine blk_drewN ?_ _ | refine blk_drew ?_ | refine blk_alloc ?_ _)); exact BK122.out) 0).trans rfl; have hcz14_1 : (((w10.setCell ⟨gb122, 0, none⟩ (.bool ((rd_T42 l1 x19_2).f0))).setCell ⟨gb122, 1, none⟩ (.int .i64 ((rd_T42 l1 x19_2).f1))).setCell ⟨gb122, 2, none⟩ (.int .i64 ((rd_T42 l1 x19_2).f2))).cell? ⟨gb122, 1, none⟩ = some (.int .i64 ((rd_T42 l1 x19_2).f1)) := (blk_cell (show (((w10.setCell ⟨gb122, 0, none⟩ (.bool ((rd_T42 l1 x19_2).f0))).setCell ⟨gb122, 1, none⟩ (.int .i64 ((rd_T42 l1 x19_2).f1))).setCell ⟨gb122, 2, none⟩ (.int .i64 ((rd_T42 l1 x19_2).f2))).heap[gb122]? = some (.cells #[.bool ((rd_T42 l1 x19_2).f0), .int .i64 ((rd_T42 l1 x19_2).f1), .int .i64 ((rd_T42 l1 x19_2).f2), .slice none 0 0] 42 (0, 0)) from by (with_reducible repeat (first | refine blk_drewN ?_ _ | refine blk_drew ?_ | refine blk_alloc ?_ _)); refine blk_put (cs := #[.bool ((rd_T42 l1 x19_2).f0), .int .i64 ((rd_T42 l1 x19_2).f1), .int .i64 0, .slice none 0 0]) ?_ 2 _ rfl; (with_reducible repeat (first | refine blk_drewN ?_ _ | refine blk_drew ?_ | refine blk_alloc ?_ _)); refine blk_put (cs := #[.bool ((rd_T42 l1 x19_2).f0), .int .i64 0, .int .i64 0, .slice none 0 0]) ?_ 1 _ rfl; (with_reducible repeat (first | refine blk_drewN ?_ _ | refine blk_drew ?_ | refine blk_alloc ?_ _)); refine blk_put (cs := #[.bool false, .int .i64 0, .int .i64 0, .slice none 0 0]) ?_ 0 _ rfl; (with_reducible repeat (first | refine blk_drewN ?_ _ | refine blk_drew ?_ | refine blk_alloc ?_ _)); exact BK122.out) 1).trans rfl; have hcz14_2 : (((w10.setCell ⟨gb122, 0, none⟩ (.bool ((rd_T42 l1 x19_2).f0))).setCell ⟨gb122, 1, none⟩ (.int .i64 ((rd_T42 l1 x19_2).f1))).setCell ⟨gb122, 2, none⟩ (.int .i64 ((rd_T42 l1 x19_2).f2))).cell? ⟨gb122, 2, none⟩ = some (.int .i64 ((rd_T42 l1 x19_2).f2)) := (blk_cell (show (((w10.setCell ⟨gb122, 0, none⟩ (.bool ((rd_T42 l1 x19_2).f0))).setCell ⟨gb122, 1, none⟩ (.int .i64 ((rd_T42 l1 x19_2).f1))).setCell ⟨gb122, 2, none⟩ (.int .i64 ((rd_T42 l1 x19_2).f2))).heap[gb122]? = some (.cells #[.bool ((rd_T42 l1 x19_2).f0), .int .i64 ((rd_T42 l1 x19_2).f1), .int .i64 ((rd_T42 l1 x19_2).f2), .slice none 0 0] 42 (0, 0)) from by (with_reducible repeat (first | refine blk_drewN ?_ _ | refine blk_drew ?_ | refine blk_alloc ?_ _)); refine blk_put (cs := #[.bool ((rd_T42 l1 x19_2).f0), .int .i64 ((rd_T42 l1 x19_2).f1), .int .i64 0, .slice none 0 0]) ?_ 2 _ rfl; (with_reducible repeat (first | refine blk_drewN ?_ _ | refine blk_drew ?_ | refine blk_alloc ?_ _)); refine blk_put (cs := #[.bool ((rd_T42 l1 x19_2).f0), .int .i64 0, .int .i64 0, .slice none 0 0]) ?_ 1 _ rfl; (with_reducible repeat (first | refine blk_drewN ?_ _ | refine blk_drew ?_ | refine blk_alloc ?_ _)); refine blk_put (cs := #[.bool false, .int .i64 0, .int .i64 0, .slice none 0 0]) ?_ 0 _ rfl; (with_reducible repeat (first | refine blk_drewN ?_ _ | refine blk_drew ?_ | refine blk_alloc ?_ _)); exact BK122.out) 2).trans rfl; have hcz14_3 : (((w10.setCell ⟨gb122, 0, none⟩ (.bool ((rd_T42 l1 x19_2).f0))).setCell ⟨gb122, 1, none⟩ (.int .i64 ((rd_T42 l1 x19_2).f1))).setCell ⟨gb122, 2, none⟩ (.int .i64 ((rd_T42 l1 x19_2).f2))).cell? ⟨gb122, 3, none⟩ = some (.slice none 0 0) := (blk_cell (show (((w10.setCell ⟨gb122, 0, none⟩ (.bool ((rd_T42 l1 x19_2).f0))).setCell ⟨gb122, 1, none⟩ (.int .i64 ((rd_T42 l1 x19_2).f1))).setCell ⟨gb122, 2, none⟩ (.int .i64 ((rd_T42 l1 x19_2).f2))).heap[gb122]? = some (.cells #[.bool ((rd_T42 l1 x19_2).f0), .int .i64 ((rd_T42 l1 x19_2).f1), .int .i64 ((rd_T42 l1 x19_2).f2), .slice none 0 0] 42 (0, 0)) from by (with_reducible repeat (first | refine blk_drewN ?_ _ | refine blk_drew ?_ | refine blk_alloc ?_ _)); refine blk_put (cs := #[.bool ((rd_T42 l1 x19_2).f0), .int .i64 ((rd_T42 l1 x19_2).f1), .int .i64 0, .slice none 0 0]) ?_ 2 _ rfl; (with_reducible repeat (first | refine blk_drewN ?_ _ | refine blk_drew ?_ | refine blk_alloc ?_ _)); refine blk_put (cs := #[.bool ((rd_T42 l1 x19_2).f0), .int .i64 0, .int .i64 0, .slice none 0 0]) ?_ 1 _ rfl; (with_reducible repeat (first | refine blk_drewN ?_ _ | refine blk_drew ?_ | refine blk_alloc ?_ _)); refine blk_put (cs := #[.bool false, .int .i64 0, .int .i64 0, .slice none 0 0]) ?_ 0 _ rfl; (with_reducible repeat (first | refine blk_drewN ?_ _ | refine blk_drew ?_ | refine blk_alloc ?_ _)); exact BK122.out) 3).trans rfl))
                  (try simp only [Act.put, List.setIfInBounds_toArray, List.set_cons_zero, List.set_cons_succ])
                  go_cut [23] (fun v23 wc => ∃ (kq : Nat) (x23_8 : Bool), v23 = .bool x23_8 ∧ Aside0 (delta_Patch.j2 kq l0 x6_2 l1 (l1.length : Int) x19_2 x23_8 ((rd_T42 l1 x19_2).f0) ((rd_T42 l1 x19_2).f1) ((rd_T42 l1 x19_2).f2) ((rd_T42 l1 x19_2).f3) = some (r1, r2)) ∧ Aside0 (kq ≤ k2) ∧ Aside0 (Kd.R (Kd.int .u8) 5 wc w.heap.size (fun _ => True) u6 x6_2) ∧ Aside0 (wc.heap[gb122]? = some (.cells #[.bool ((rd_T42 l1 x19_2).f0), .int .i64 ((rd_T42 l1 x19_2).f1), .int .i64 ((rd_T42 l1 x19_2).f2), (.slice A121_3 ((rd_T42 l1 x19_2).f3).length c121_3)] 42 (0, 0))) ∧ Aside0 (Below w.heap.size w wc))
                  case first =>
                    have H := HC9.out
                    clear HC9
                    obtain ⟨bq15, hbq15⟩ : ∃ b_ : Bool, b_ = ((rd_T42 l1 x19_2).f0) := ⟨_, rfl⟩
                    replace H : (if bq15 = true then (delta_Patch.j2 k2 l0 x6_2 l1 (l1.length : Int) x19_2 (decide ((((rd_T42 l1 x19_2).f3).length : Int) > 0)) bq15 ((rd_T42 l1 x19_2).f1) ((rd_T42 l1 x19_2).f2) ((rd_T42 l1 x19_2).f3)) else (delta_Patch.j2 k2 l0 x6_2 l1 (l1.length : Int) x19_2 false bq15 ((rd_T42 l1 x19_2).f1) ((rd_T42 l1 x19_2).f2) ((rd_T42 l1 x19_2).f3))) = some (r1, r2) := by rw [← hbq15] at H; exact H
                    have Nbq15 := Aside0.mk hbq15
                    clear hbq15
                    (try rw [← Nbq15.out])
                    by_cases c16 : bq15 = true
                    · subst c16
                      have H1 : (delta_Patch.j2 k2 l0 x6_2 l1 (l1.length : Int) x19_2 (decide ((((rd_T42 l1 x19_2).f3).length : Int) > 0)) true ((rd_T42 l1 x19_2).f1) ((rd_T42 l1 x19_2).f2) ((rd_T42 l1 x19_2).f3)) = some (r1, r2) := by rw [if_pos rfl] at H; exact H
                      clear H
                      have H := H1
                      clear H1
                      have H' := Aside0.mk H
                      clear H
                      have hcz17_0 : w10.cell? ⟨gb122, 0, none⟩ = some (.bool false) := (blk_cell BK122.out 0).trans rfl
                      have hcz17_1 : w10.cell? ⟨gb122, 1, none⟩ = some (.int .i64 0) := (blk_cell BK122.out 1).trans rfl
                      have hcz17_2 : w10.cell? ⟨gb122, 2, none⟩ = some (.int .i64 0) := (blk_cell BK122.out 2).trans rfl
                      have hcz17_3 : w10.cell? ⟨gb122, 3, none⟩ = some (.slice none 0 0) := (blk_cell BK122.out 3).trans rfl
                      have hfz17_0 := blk_frozen BK122.out 0
                      have hfz17_1 := blk_frozen BK122.out 1
                      have hfz17_2 := blk_frozen BK122.out 2
                      have hfz17_3 := blk_frozen BK122.out 3
                      go_wp2
                      go_meet
                      case rel => (try rw [← Nbq15.out]); exact ⟨_, (decide ((((rd_T42 l1 x19_2).f3).length : Int) > 0)), (by first | rfl | (simp; done) | (simp [*]; done)), H', ⟨by have := HJ2.out; have := HK2.out; first | omega | exact Nat.le_refl _⟩, ⟨by (with_reducible repeat (first | apply Kd.R_alloc | apply Kd.R_drewN | apply Kd.R_drew)); exact Kd.R_mono (Kd.R_far (p := ⟨gb122, 3, none⟩) (Kd.R_far (p := ⟨gb122, 2, none⟩) (Kd.R_far (p := ⟨gb122, 1, none⟩) (Kd.R_far (p := ⟨gb122, 0, none⟩) (Kd.R_types HO_6.out BK122.out (by decide)) (fun _ hk => by first | exact hk.2 | (and_intros <;> first | exact hk | exact hk.1 | exact hk.2 | exact hk.1.1 | exact hk.1.2 | exact hk.2.1 | exact hk.2.2 | exact hk.1.1.1 | exact hk.1.1.2 | exact hk.2.2.1 | exact hk.2.2.2)) (.bool (true))) (fun _ hk => by first | exact hk.2 | (and_intros <;> first | exact hk | exact hk.1 | exact hk.2 | exact hk.1.1 | exact hk.1.2 | exact hk.2.1 | exact hk.2.2 | exact hk.1.1.1 | exact hk.1.1.2 | exact hk.2.2.1 | exact hk.2.2.2)) (.int .i64 ((rd_T42 l1 x19_2).f1))) (fun _ hk => by first | exact hk.2 | (and_intros <;> first | exact hk | exact hk.1 | exact hk.2 | exact hk.1.1 | exact hk.1.2 | exact hk.2.1 | exact hk.2.2 | exact hk.1.1.1 | exact hk.1.1.2 | exact hk.2.2.1 | exact hk.2.2.2)) (.int .i64 ((rd_T42 l1 x19_2).f2))) (fun _ hk => by first | exact hk.2 | (and_intros <;> first | exact hk | exact hk.1 | exact hk.2 | exact hk.1.1 | exact hk.1.2 | exact hk.2.1 | exact hk.2.2 | exact hk.1.1.1 | exact hk.1.1.2 | exact hk.2.2.1 | exact hk.2.2.2)) (.slice A121_3 ((rd_T42 l1 x19_2).f3).length c121_3)) (fun _ hk => trivial)⟩, ⟨by (with_reducible repeat (first | refine blk_drewN ?_ _ | refine blk_drew ?_ | refine blk_alloc ?_ _)); refine blk_put (cs := #[.bool (true), .int .i64 ((rd_T42 l1 x19_2).f1), .int .i64 ((rd_T42 l1 x19_2).f2), .slice none 0 0]) ?_ 3 _ rfl; (with_reducible repeat (first | refine blk_drewN ?_ _ | refine blk_drew ?_ | refine blk_alloc ?_ _)); refine blk_put (cs := #[.bool (true), .int .i64 ((rd_T42 l1 x19_2).f1), .int .i64 0, .slice none 0 0]) ?_ 2 _ rfl; (with_reducible repeat (first | refine blk_drewN ?_ _ | refine blk_drew ?_ | refine blk_alloc ?_ _)); refine blk_put (cs := #[.bool (true), .int .i64 0, .int .i64 0, .slice none 0 0]) ?_ 1 _ rfl; (with_reducible repeat (first | refine blk_drewN ?_ _ | refine blk_drew ?_ | refine blk_alloc ?_ _)); refine blk_put (cs := #[.bool false, .int .i64 0, .int .i64 0, .slice none 0 0]) ?_ 0 _ rfl; (with_reducible repeat (first | refine blk_drewN ?_ _ | refine blk_drew ?_ | refine blk_alloc ?_ _)); exact BK122.out⟩, ⟨by repeat (first | (with_reducible first | exact HB.out | apply below_alloc | apply pw_below_drewN | apply below_drew1 | refine below_set ?_ GE122.out) | exact HB.out)⟩⟩
                    · replace c16 := Bool.eq_false_iff.mpr c16
                      subst c16
                      have H1 : (delta_Patch.j2 k2 l0 x6_2 l1 (l1.length : Int) x19_2 false false ((rd_T42 l1 x19_2).f1) ((rd_T42 l1 x19_2).f2) ((rd_T42 l1 x19_2).f3)) = some (r1, r2) := by rw [if_neg (show ¬ (false = true) by decide)] at H; exact H
                      clear H
                      have H := H1
                      clear H1
                      have H' := Aside0.mk H
                      clear H
                      have hcz18_0 : w10.cell? ⟨gb122, 0, none⟩ = some (.bool false) := (blk_cell BK122.out 0).trans rfl
                      have hcz18_1 : w10.cell? ⟨gb122, 1, none⟩ = some (.int .i64 0) := (blk_cell BK122.out 1).trans rfl
                      have hcz18_2 : w10.cell? ⟨gb122, 2, none⟩ = some (.int .i64 0) := (blk_cell BK122.out 2).trans rfl
                      have hcz18_3 : w10.cell? ⟨gb122, 3, none⟩ = some (.slice none 0 0) := (blk_cell BK122.out 3).trans rfl
                      have hfz18_0 := blk_frozen BK122.out 0
                      have hfz18_1 := blk_frozen BK122.out 1
                      have hfz18_2 := blk_frozen BK122.out 2
                      have hfz18_3 := blk_frozen BK122.out 3
                      go_wp2
                      go_meet
                      case rel => (try rw [← Nbq15.out]); exact ⟨_, (false), (by first | rfl | (simp; done) | (simp [*]; done)), H', ⟨by have := HJ2.out; have := HK2.out; first | omega | exact Nat.le_refl _⟩, ⟨by (with_reducible repeat (first | apply Kd.R_alloc | apply Kd.R_drewN | apply Kd.R_drew)); exact Kd.R_mono (Kd.R_far (p := ⟨gb122, 3, none⟩) (Kd.R_far (p := ⟨gb122, 2, none⟩) (Kd.R_far (p := ⟨gb122, 1, none⟩) (Kd.R_far (p := ⟨gb122, 0, none⟩) (Kd.R_types HO_6.out BK122.out (by decide)) (fun _ hk => by first | exact hk.2 | (and_intros <;> first | exact hk | exact hk.1 | exact hk.2 | exact hk.1.1 | exact hk.1.2 | exact hk.2.1 | exact hk.2.2 | exact hk.1.1.1 | exact hk.1.1.2 | exact hk.2.2.1 | exact hk.2.2.2)) (.bool (false))) (fun _ hk => by first | exact hk.2 | (and_intros <;> first | exact hk | exact hk.1 | exact hk.2 | exact hk.1.1 | exact hk.1.2 | exact hk.2.1 | exact hk.2.2 | exact hk.1.1.1 | exact hk.1.1.2 | exact hk.2.2.1 | exact hk.2.2.2)) (.int .i64 ((rd_T42 l1 x19_2).f1))) (fun _ hk => by first | exact hk.2 | (and_intros <;> first | exact hk | exact hk.1 | exact hk.2 | exact hk.1.1 | exact hk.1.2 | exact hk.2.1 | exact hk.2.2 | exact hk.1.1.1 | exact hk.1.1.2 | exact hk.2.2.1 | exact hk.2.2.2)) (.int .i64 ((rd_T42 l1 x19_2).f2))) (fun _ hk => by first | exact hk.2 | (and_intros <;> first | exact hk | exact hk.1 | exact hk.2 | exact hk.1.1 | exact hk.1.2 | exact hk.2.1 | exact hk.2.2 | exact hk.1.1.1 | exact hk.1.1.2 | exact hk.2.2.1 | exact hk.2.2.2)) (.slice A121_3 ((rd_T42 l1 x19_2).f3).length c121_3)) (fun _ hk => trivial)⟩, ⟨by (with_reducible repeat (first | refine blk_drewN ?_ _ | refine blk_drew ?_ | refine blk_alloc ?_ _)); refine blk_put (cs := #[.bool (false), .int .i64 ((rd_T42 l1 x19_2).f1), .int .i64 ((rd_T42 l1 x19_2).f2), .slice none 0 0]) ?_ 3 _ rfl; (with_reducible repeat (first | refine blk_drewN ?_ _ | refine blk_drew ?_ | refine blk_alloc ?_ _)); refine blk_put (cs := #[.bool (false), .int .i64 ((rd_T42 l1 x19_2).f1), .int .i64 0, .slice none 0 0]) ?_ 2 _ rfl; (with_reducible repeat (first | refine blk_drewN ?_ _ | refine blk_drew ?_ | refine blk_alloc ?_ _)); refine blk_put (cs := #[.bool (false), .int .i64 0, .int .i64 0, .slice none 0 0]) ?_ 1 _ rfl; (with_reducible repeat (first | refine blk_drewN ?_ _ | refine blk_drew ?_ | refine blk_alloc ?_ _)); refine blk_put (cs := #[.bool false, .int .i64 0, .int .i64 0, .slice none 0 0]) ?_ 0 _ rfl; (with_reducible repeat (first | refine blk_drewN ?_ _ | refine blk_drew ?_ | refine blk_alloc ?_ _)); exact BK122.out⟩, ⟨by repeat (first | (with_reducible first | exact HB.out | apply below_alloc | apply pw_below_drewN | apply below_drew1 | refine below_set ?_ GE122.out) | exact HB.out)⟩⟩
                  case rest =>
                    clear HC9
                    try clear c1
                    try clear p1
                    try clear q1
                    try clear hx1
                    try clear p2
                    try clear c4
                    try clear c4b0
                    try clear c4b1
                    try clear c5
                    try clear c6
                    try clear c6b0
                    try clear c7
                    try clear c7b0
                    try clear c8
                    try clear c8b0
                    try clear c12
                    try clear p12
                    try clear q12
                    try clear hx12
                    try clear q15
                    try clear c16
                    try clear hcz11_0
                    try clear hcz11_1
                    try clear hcz11_2
                    try clear hcz11_3
                    try clear hcz12_0
                    try clear hcz12_1
                    try clear hcz12_2
                    try clear hcz12_3
                    try clear hcz13_0
                    try clear hcz13_1
                    try clear hcz13_2
                    try clear hcz13_3
                    try clear hcz14_0
                    try clear hcz14_1
                    try clear hcz14_2
                    try clear hcz14_3
                    try clear hcz17_0
                    try clear hcz17_1
                    try clear hcz17_2
                    try clear hcz17_3
                    try clear hcz18_0
                    try clear hcz18_1
                    try clear hcz18_2
                    try clear hcz18_3
                    try clear hfz11_0
                    try clear hfz11_1
                    try clear hfz11_2
                    try clear hfz11_3
                    try clear hfz17_0
                    try clear hfz17_1
                    try clear hfz17_2
                    try clear hfz17_3
                    try clear hfz18_0
                    try clear hfz18_1
                    try clear hfz18_2
                    try clear hfz18_3
                    try clear hx121_0
                    try clear hx121_1
                    try clear hx121_2
                    try clear hx121_3
                    try clear p121
                    try clear p2
                    try clear q121
                    obtain ⟨kq, x23_8, rfl, HA, HJ8, HO_6, BK122, HB⟩ := hcut
                    cases kq with
                    | zero => exact absurd HA.out (by simp [delta_Patch.j2])
                    | succ kj8 =>
                      have H := HA.out
                      clear HA
                      simp only [delta_Patch.j2] at H
                      have HC19 := Aside0.mk H
                      clear H
                      go_upto_if 23 with (fail)
                      go_cut [23] (fun v23 wc => ∃ (kq : Nat) (x23_18 : Bool), v23 = .bool x23_18 ∧ Aside0 (delta_Patch.j3 kq l0 x6_2 l1 (l1.length : Int) x19_2 x23_18 ((rd_T42 l1 x19_2).f0) ((rd_T42 l1 x19_2).f1) ((rd_T42 l1 x19_2).f2) ((rd_T42 l1 x19_2).f3) = some (r1, r2)) ∧ Aside0 (kq ≤ kj8) ∧ Aside0 (Kd.R (Kd.int .u8) 5 wc w.heap.size (fun _ => True) u6 x6_2) ∧ Aside0 (wc.heap[gb122]? = some (.cells #[.bool ((rd_T42 l1 x19_2).f0), .int .i64 ((rd_T42 l1 x19_2).f1), .int .i64 ((rd_T42 l1 x19_2).f2), (.slice A121_3 ((rd_T42 l1 x19_2).f3).length c121_3)] 42 (0, 0))) ∧ Aside0 (Below w.heap.size w wc))
                      case first =>
                        have H := HC19.out
                        clear HC19
                        by_cases c20 : x23_8 = true
                        · subst c20
                          have H1 : (delta_Patch.j3 kj8 l0 x6_2 l1 (l1.length : Int) x19_2 true ((rd_T42 l1 x19_2).f0) ((rd_T42 l1 x19_2).f1) ((rd_T42 l1 x19_2).f2) ((rd_T42 l1 x19_2).f3)) = some (r1, r2) := by rw [if_pos rfl] at H; exact H
                          clear H
                          have H := H1
                          clear H1
                          have H' := Aside0.mk H
                          clear H
                          go_wp2
                          go_meet
                          case rel => exact ⟨_, (true), (by first | rfl | (simp; done) | (simp [*]; done)), H', ⟨by have := HJ2.out; have := HK2.out; have := HJ8.out; first | omega | exact Nat.le_refl _⟩, ⟨by (with_reducible repeat (first | apply Kd.R_alloc | apply Kd.R_drewN | apply Kd.R_drew)); exact HO_6.out⟩, ⟨by (with_reducible repeat (first | refine blk_drewN ?_ _ | refine blk_drew ?_ | refine blk_alloc ?_ _)); exact BK122.out⟩, ⟨by repeat (first | (with_reducible first | exact HB.out | apply below_alloc | apply pw_below_drewN | apply below_drew1 | refine below_set ?_ GE122.out) | exact HB.out)⟩⟩
                        · replace c20 := Bool.eq_false_iff.mpr c20
                          subst c20
                          have H1 : (if ((rd_T42 l1 x19_2).f0) = true then (delta_Patch.j3 kj8 l0 x6_2 l1 (l1.length : Int) x19_2 false ((rd_T42 l1 x19_2).f0) ((rd_T42 l1 x19_2).f1) ((rd_T42 l1 x19_2).f2) ((rd_T42 l1 x19_2).f3)) else (if ((rd_T42 l1 x19_2).f1) = 0 then (delta_Patch.j3 kj8 l0 x6_2 l1 (l1.length : Int) x19_2 (((rd_T42 l1 x19_2).f2) != 0) ((rd_T42 l1 x19_2).f0) ((rd_T42 l1 x19_2).f1) ((rd_T42 l1 x19_2).f2) ((rd_T42 l1 x19_2).f3)) else (delta_Patch.j3 kj8 l0 x6_2 l1 (l1.length : Int) x19_2 true ((rd_T42 l1 x19_2).f0) ((rd_T42 l1 x19_2).f1) ((rd_T42 l1 x19_2).f2) ((rd_T42 l1 x19_2).f3)))) = some (r1, r2) := by rw [if_neg (show ¬ (false = true) by decide)] at H; exact H
                          clear H
                          have H := H1
                          clear H1
                          by_cases c21 : ((rd_T42 l1 x19_2).f0) = true
                          · rw [if_pos c21] at H
                            have c21b0 : ((rd_T42 l1 x19_2).f0) = true := c21
                            clear c21
                            (first | rw [c21b0] | (simp only [i64_w, i32_w]; rw [c21b0]) | rw [c21b1] | skip)
                            have H' := Aside0.mk H
                            clear H
                            have hcz22_0 : wc.cell? ⟨gb122, 0, none⟩ = some (.bool ((rd_T42 l1 x19_2).f0)) := (blk_cell BK122.out 0).trans rfl
                            have hcz22_1 : wc.cell? ⟨gb122, 1, none⟩ = some (.int .i64 ((rd_T42 l1 x19_2).f1)) := (blk_cell BK122.out 1).trans rfl
                            have hcz22_2 : wc.cell? ⟨gb122, 2, none⟩ = some (.int .i64 ((rd_T42 l1 x19_2).f2)) := (blk_cell BK122.out 2).trans rfl
                            have hcz22_3 : wc.cell? ⟨gb122, 3, none⟩ = some (.slice A121_3 ((rd_T42 l1 x19_2).f3).length c121_3) := (blk_cell BK122.out 3).trans rfl
                            have hfz22_0 := blk_frozen BK122.out 0
                            have hfz22_1 := blk_frozen BK122.out 1
                            have hfz22_2 := blk_frozen BK122.out 2
                            have hfz22_3 := blk_frozen BK122.out 3
                            go_wp2
                            go_meet
                            case rel => exact ⟨_, (false), (by first | rfl | (simp; done) | (simp [*]; done)), H', ⟨by have := HJ2.out; have := HK2.out; have := HJ8.out; first | omega | exact Nat.le_refl _⟩, ⟨by (with_reducible repeat (first | apply Kd.R_alloc | apply Kd.R_drewN | apply Kd.R_drew)); exact HO_6.out⟩, ⟨by (with_reducible repeat (first | refine blk_drewN ?_ _ | refine blk_drew ?_ | refine blk_alloc ?_ _)); exact BK122.out⟩, ⟨by repeat (first | (with_reducible first | exact HB.out | apply below_alloc | apply pw_below_drewN | apply below_drew1 | refine below_set ?_ GE122.out) | exact HB.out)⟩⟩
                          · rw [if_neg c21] at H
                            have c21b0 : ((rd_T42 l1 x19_2).f0) = false := by simpa using c21
                            clear c21
                            (first | rw [c21b0] | (simp only [i64_w, i32_w]; rw [c21b0]) | rw [c21b1] | skip)
                            by_cases c23 : ((rd_T42 l1 x19_2).f1) = 0
                            · rw [if_pos c23] at H
                              have c23b0 : (((rd_T42 l1 x19_2).f1) == 0) = true := beq_iff_eq.mpr c23
                              have c23b1 : (((rd_T42 l1 x19_2).f1) != 0) = false := bne_eq_false_iff_eq.mpr c23
                              clear c23
                              have H' := Aside0.mk H
                              clear H
                              have hcz24_0 : wc.cell? ⟨gb122, 0, none⟩ = some (.bool ((rd_T42 l1 x19_2).f0)) := (blk_cell BK122.out 0).trans rfl
                              have hcz24_1 : wc.cell? ⟨gb122, 1, none⟩ = some (.int .i64 ((rd_T42 l1 x19_2).f1)) := (blk_cell BK122.out 1).trans rfl
                              have hcz24_2 : wc.cell? ⟨gb122, 2, none⟩ = some (.int .i64 ((rd_T42 l1 x19_2).f2)) := (blk_cell BK122.out 2).trans rfl
                              have hcz24_3 : wc.cell? ⟨gb122, 3, none⟩ = some (.slice A121_3 ((rd_T42 l1 x19_2).f3).length c121_3) := (blk_cell BK122.out 3).trans rfl
                              have hfz24_0 := blk_frozen BK122.out 0
                              have hfz24_1 := blk_frozen BK122.out 1
                              have hfz24_2 := blk_frozen BK122.out 2
                              have hfz24_3 := blk_frozen BK122.out 3
                              go_wp2
                              go_meet
                              case rel => exact ⟨_, ((((rd_T42 l1 x19_2).f2) != 0)), (by first | rfl | (simp; done) | (simp [*]; done)), H', ⟨by have := HJ2.out; have := HK2.out; have := HJ8.out; first | omega | exact Nat.le_refl _⟩, ⟨by (with_reducible repeat (first | apply Kd.R_alloc | apply Kd.R_drewN | apply Kd.R_drew)); exact HO_6.out⟩, ⟨by (with_reducible repeat (first | refine blk_drewN ?_ _ | refine blk_drew ?_ | refine blk_alloc ?_ _)); exact BK122.out⟩, ⟨by repeat (first | (with_reducible first | exact HB.out | apply below_alloc | apply pw_below_drewN | apply below_drew1 | refine below_set ?_ GE122.out) | exact HB.out)⟩⟩
                            · rw [if_neg c23] at H
                              have c23b0 : (((rd_T42 l1 x19_2).f1) == 0) = false := beq_eq_false_iff_ne.mpr c23
                              have c23b1 : (((rd_T42 l1 x19_2).f1) != 0) = true := bne_iff_ne.mpr c23
                              have H' := Aside0.mk H
                              clear H
                              have hcz25_0 : wc.cell? ⟨gb122, 0, none⟩ = some (.bool ((rd_T42 l1 x19_2).f0)) := (blk_cell BK122.out 0).trans rfl
                              have hcz25_1 : wc.cell? ⟨gb122, 1, none⟩ = some (.int .i64 ((rd_T42 l1 x19_2).f1)) := (blk_cell BK122.out 1).trans rfl
                              have hcz25_2 : wc.cell? ⟨gb122, 2, none⟩ = some (.int .i64 ((rd_T42 l1 x19_2).f2)) := (blk_cell BK122.out 2).trans rfl
                              have hcz25_3 : wc.cell? ⟨gb122, 3, none⟩ = some (.slice A121_3 ((rd_T42 l1 x19_2).f3).length c121_3) := (blk_cell BK122.out 3).trans rfl
                              have hfz25_0 := blk_frozen BK122.out 0
                              have hfz25_1 := blk_frozen BK122.out 1
                              have hfz25_2 := blk_frozen BK122.out 2
                              have hfz25_3 := blk_frozen BK122.out 3
                              go_wp2
                              go_meet
                              case rel => exact ⟨_, (true), (by first | rfl | (simp; done) | (simp [*]; done)), H', ⟨by have := HJ2.out; have := HK2.out; have := HJ8.out; first | omega | exact Nat.le_refl _⟩, ⟨by (with_reducible repeat (first | apply Kd.R_alloc | apply Kd.R_drewN | apply Kd.R_drew)); exact HO_6.out⟩, ⟨by (with_reducible repeat (first | refine blk_drewN ?_ _ | refine blk_drew ?_ | refine blk_alloc ?_ _)); exact BK122.out⟩, ⟨by repeat (first | (with_reducible first | exact HB.out | apply below_alloc | apply pw_below_drewN | apply below_drew1 | refine below_set ?_ GE122.out) | exact HB.out)⟩⟩
                      case rest =>
                        clear HC19
                        try clear c1
                        try clear p1
                        try clear q1
                        try clear hx1
                        try clear c2
                        try clear p2
                        try clear c4
                        try clear c4b0
                        try clear c4b1
                        try clear c5
                        try clear c6
                        try clear c6b0
                        try clear c7
                        try clear c7b0
                        try clear c8
                        try clear c8b0
                        try clear c12
                        try clear p12
                        try clear q12
                        try clear hx12
                        try clear q15
                        try clear c16
                        try clear c20
                        try clear c21
                        try clear c21b0
                        try clear c21b1
                        try clear c23
                        try clear c23b0
                        try clear c23b1
                        try clear hcz11_0
                        try clear hcz11_1
                        try clear hcz11_2
                        try clear hcz11_3
                        try clear hcz12_0
                        try clear hcz12_1
                        try clear hcz12_2
                        try clear hcz12_3
                        try clear hcz13_0
                        try clear hcz13_1
                        try clear hcz13_2
                        try clear hcz13_3
                        try clear hcz14_0
                        try clear hcz14_1
                        try clear hcz14_2
                        try clear hcz14_3
                        try clear hcz17_0
                        try clear hcz17_1
                        try clear hcz17_2
                        try clear hcz17_3
                        try clear hcz18_0
                        try clear hcz18_1
                        try clear hcz18_2
                        try clear hcz18_3
                        try clear hcz22_0
                        try clear hcz22_1
                        try clear hcz22_2
                        try clear hcz22_3
                        try clear hcz24_0
                        try clear hcz24_1
                        try clear hcz24_2
                        try clear hcz24_3
                        try clear hcz25_0
                        try clear hcz25_1
                        try clear hcz25_2
                        try clear hcz25_3
                        try clear hfz11_0
                        try clear hfz11_1
                        try clear hfz11_2
                        try clear hfz11_3
                        try clear hfz17_0
                        try clear hfz17_1
                        try clear hfz17_2
                        try clear hfz17_3
                        try clear hfz18_0
                        try clear hfz18_1
                        try clear hfz18_2
                        try clear hfz18_3
                        try clear hfz22_0
                        try clear hfz22_1
                        try clear hfz22_2
                        try clear hfz22_3
                        try clear hfz24_0
                        try clear hfz24_1
                        try clear hfz24_2
                        try clear hfz24_3
                        try clear hfz25_0
                        try clear hfz25_1
                        try clear hfz25_2
                        try clear hfz25_3
                        try clear hx121_0
                        try clear hx121_1
                        try clear hx121_2
                        try clear hx121_3
                        try clear p1
                        try clear p12
                        try clear p121
                        try clear p2
                        try clear q1
                        try clear q12
                        try clear q121
                        try clear q15
                        obtain ⟨kq, x23_18, rfl, HA, HJ18, HO_6, BK122, HB⟩ := hcut
                        cases kq with
                        | zero => exact absurd HA.out (by simp [delta_Patch.j3])
                        | succ kj18 =>
                          have H := HA.out
                          clear HA
                          simp only [delta_Patch.j3] at H
                          by_cases c26 : x23_18 = true
                          · subst c26
                            have H1 : (some (([] : List Int), 4)) = some (r1, r2) := by rw [if_pos rfl] at H; exact H
                            clear H
                            have H := H1
                            clear H1
                            simp only [Option.some.injEq, Prod.mk.injEq] at H
                            obtain ⟨rfl, rfl⟩ := H
                            go_wp2
                            go_ret2
                            exact ⟨_, by first | rfl | (simp [errW_none, errW_some] <;> rfl) | (simp [*, errW_none, errW_some] <;> rfl), by first | exact Kd.R_nil _ _ _ _ _ | exact Kd.N_nil _ _ _ _ _ | exact Kd.V_nil _ _ _ _ _ | exact Kd.Q_nil _ _ _ _ _ | exact Kd.S_nil _ _ _ _ _, by repeat (first | (with_reducible first | exact HB.out | apply below_alloc | apply pw_below_drewN | apply below_drew1 | refine below_set ?_ GE122.out) | exact HB.out)⟩
                          · replace c26 := Bool.eq_false_iff.mpr c26
                            subst c26
                            have H1 : (if ((rd_T42 l1 x19_2).f1) < 0 then (delta_Patch.j4 kj18 l0 x6_2 l1 (l1.length : Int) x19_2 true ((rd_T42 l1 x19_2).f0) ((rd_T42 l1 x19_2).f1) ((rd_T42 l1 x19_2).f2) ((rd_T42 l1 x19_2).f3)) else (if ((rd_T42 l1 x19_2).f2) < 0 then (delta_Patch.j4 kj18 l0 x6_2 l1 (l1.length : Int) x19_2 true ((rd_T42 l1 x19_2).f0) ((rd_T42 l1 x19_2).f1) ((rd_T42 l1 x19_2).f2) ((rd_T42 l1 x19_2).f3)) else (if ((rd_T42 l1 x19_2).f1) > (l0.length : Int) then (delta_Patch.j4 kj18 l0 x6_2 l1 (l1.length : Int) x19_2 true ((rd_T42 l1 x19_2).f0) ((rd_T42 l1 x19_2).f1) ((rd_T42 l1 x19_2).f2) ((rd_T42 l1 x19_2).f3)) else (delta_Patch.j4 kj18 l0 x6_2 l1 (l1.length : Int) x19_2 (decide (((rd_T42 l1 x19_2).f2) > (wrap64 ((l0.length : Int) - ((rd_T42 l1 x19_2).f1))))) ((rd_T42 l1 x19_2).f0) ((rd_T42 l1 x19_2).f1) ((rd_T42 l1 x19_2).f2) ((rd_T42 l1 x19_2).f3))))) = some (r1, r2) := by rw [if_neg (show ¬ (false = true) by decide)] at H; exact H
                            clear H
                            have H := H1
                            clear H1
                            have HC27 := Aside0.mk H
                            clear H
                            go_upto_region 10 with (fail)
                            go_cut [45] (fun v45 wc => ∃ (kq : Nat) (x45_26 : Bool), v45 = .bool x45_26 ∧ Aside0 (delta_Patch.j4 kq l0 x6_2 l1 (l1.length : Int) x19_2 x45_26 ((rd_T42 l1 x19_2).f0) ((rd_T42 l1 x19_2).f1) ((rd_T42 l1 x19_2).f2) ((rd_T42 l1 x19_2).f3) = some (r1, r2)) ∧ Aside0 (kq ≤ kj18) ∧ Aside0 (Kd.R (Kd.int .u8) 5 wc w.heap.size (fun _ => True) u6 x6_2) ∧ Aside0 (wc.heap[gb122]? = some (.cells #[.bool ((rd_T42 l1 x19_2).f0), .int .i64 ((rd_T42 l1 x19_2).f1), .int .i64 ((rd_T42 l1 x19_2).f2), (.slice A121_3 ((rd_T42 l1 x19_2).f3).length c121_3)] 42 (0, 0))) ∧ Aside0 (Below w.heap.size w wc))
                            case first =>
                              have H := HC27.out
                              clear HC27
                              by_cases c28 : ((rd_T42 l1 x19_2).f1) < 0
                              · rw [if_pos c28] at H
                                have c28b0 : decide (((rd_T42 l1 x19_2).f1) < 0) = true := decide_eq_true c28
                                clear c28
                                (first | rw [c28b0] | (simp only [i64_w, i32_w]; rw [c28b0]) | rw [c28b1] | skip)
                                have H' := Aside0.mk H
                                clear H
                                have hcz29_0 : wc.cell? ⟨gb122, 0, none⟩ = some (.bool ((rd_T42 l1 x19_2).f0)) := (blk_cell BK122.out 0).trans rfl
                                have hcz29_1 : wc.cell? ⟨gb122, 1, none⟩ = some (.int .i64 ((rd_T42 l1 x19_2).f1)) := (blk_cell BK122.out 1).trans rfl
                                have hcz29_2 : wc.cell? ⟨gb122, 2, none⟩ = some (.int .i64 ((rd_T42 l1 x19_2).f2)) := (blk_cell BK122.out 2).trans rfl
                                have hcz29_3 : wc.cell? ⟨gb122, 3, none⟩ = some (.slice A121_3 ((rd_T42 l1 x19_2).f3).length c121_3) := (blk_cell BK122.out 3).trans rfl
                                have hfz29_0 := blk_frozen BK122.out 0
                                have hfz29_1 := blk_frozen BK122.out 1
                                have hfz29_2 := blk_frozen BK122.out 2
                                have hfz29_3 := blk_frozen BK122.out 3
                                go_wp2
                                go_meet
                                case rel => exact ⟨_, (true), (by first | rfl | (simp; done) | (simp [*]; done)), H', ⟨by have := HJ2.out; have := HK2.out; have := HJ8.out; have := HJ18.out; first | omega | exact Nat.le_refl _⟩, ⟨by (with_reducible repeat (first | apply Kd.R_alloc | apply Kd.R_drewN | apply Kd.R_drew)); exact HO_6.out⟩, ⟨by (with_reducible repeat (first | refine blk_drewN ?_ _ | refine blk_drew ?_ | refine blk_alloc ?_ _)); exact BK122.out⟩, ⟨by repeat (first | (with_reducible first | exact HB.out | apply below_alloc | apply pw_below_drewN | apply below_drew1 | refine below_set ?_ GE122.out) | exact HB.out)⟩⟩
                              · rw [if_neg c28] at H
                                have c28b0 : decide (((rd_T42 l1 x19_2).f1) < 0) = false := decide_eq_false c28
                                clear c28
                                (first | rw [c28b0] | (simp only [i64_w, i32_w]; rw [c28b0]) | rw [c28b1] | skip)
                                by_cases c30 : ((rd_T42 l1 x19_2).f2) < 0
                                · rw [if_pos c30] at H
                                  have c30b0 : decide (((rd_T42 l1 x19_2).f2) < 0) = true := decide_eq_true c30
                                  clear c30
                                  have H' := Aside0.mk H
                                  clear H
                                  have hcz31_0 : wc.cell? ⟨gb122, 0, none⟩ = some (.bool ((rd_T42 l1 x19_2).f0)) := (blk_cell BK122.out 0).trans rfl
                                  have hcz31_1 : wc.cell? ⟨gb122, 1, none⟩ = some (.int .i64 ((rd_T42 l1 x19_2).f1)) := (blk_cell BK122.out 1).trans rfl
                                  have hcz31_2 : wc.cell? ⟨gb122, 2, none⟩ = some (.int .i64 ((rd_T42 l1 x19_2).f2)) := (blk_cell BK122.out 2).trans rfl
                                  have hcz31_3 : wc.cell? ⟨gb122, 3, none⟩ = some (.slice A121_3 ((rd_T42 l1 x19_2).f3).length c121_3) := (blk_cell BK122.out 3).trans rfl
                                  have hfz31_0 := blk_frozen BK122.out 0
                                  have hfz31_1 := blk_frozen BK122.out 1
                                  have hfz31_2 := blk_frozen BK122.out 2
                                  have hfz31_3 := blk_frozen BK122.out 3
                                  go_wp2
                                  go_meet
                                  case rel => exact ⟨_, (true), (by first | rfl | (simp; done) | (simp [*]; done)), H', ⟨by have := HJ2.out; have := HK2.out; have := HJ8.out; have := HJ18.out; first | omega | exact Nat.le_refl _⟩, ⟨by (with_reducible repeat (first | apply Kd.R_alloc | apply Kd.R_drewN | apply Kd.R_drew)); exact HO_6.out⟩, ⟨by (with_reducible repeat (first | refine blk_drewN ?_ _ | refine blk_drew ?_ | refine blk_alloc ?_ _)); exact BK122.out⟩, ⟨by repeat (first | (with_reducible first | exact HB.out | apply below_alloc | apply pw_below_drewN | apply below_drew1 | refine below_set ?_ GE122.out) | exact HB.out)⟩⟩
                                · rw [if_neg c30] at H
                                  have c30b0 : decide (((rd_T42 l1 x19_2).f2) < 0) = false := decide_eq_false c30
                                  clear c30
                                  by_cases c32 : ((rd_T42 l1 x19_2).f1) > (l0.length : Int)
                                  · rw [if_pos c32] at H
                                    have c32b0 : decide ((l0.length : Int) < ((rd_T42 l1 x19_2).f1)) = true := decide_eq_true c32
                                    clear c32
                                    have H' := Aside0.mk H
                                    clear H
                                    have hcz33_0 : wc.cell? ⟨gb122, 0, none⟩ = some (.bool ((rd_T42 l1 x19_2).f0)) := (blk_cell BK122.out 0).trans rfl
                                    have hcz33_1 : wc.cell? ⟨gb122, 1, none⟩ = some (.int .i64 ((rd_T42 l1 x19_2).f1)) := (blk_cell BK122.out 1).trans rfl
                                    have hcz33_2 : wc.cell? ⟨gb122, 2, none⟩ = some (.int .i64 ((rd_T42 l1 x19_2).f2)) := (blk_cell BK122.out 2).trans rfl
                                    have hcz33_3 : wc.cell? ⟨gb122, 3, none⟩ = some (.slice A121_3 ((rd_T42 l1 x19_2).f3).length c121_3) := (blk_cell BK122.out 3).trans rfl
                                    have hfz33_0 := blk_frozen BK122.out 0
                                    have hfz33_1 := blk_frozen BK122.out 1
                                    have hfz33_2 := blk_frozen BK122.out 2
                                    have hfz33_3 := blk_frozen BK122.out 3
                                    go_wp2
                                    go_meet
                                    case rel => exact ⟨_, (true), (by first | rfl | (simp; done) | (simp [*]; done)), H', ⟨by have := HJ2.out; have := HK2.out; have := HJ8.out; have := HJ18.out; first | omega | exact Nat.le_refl _⟩, ⟨by (with_reducible repeat (first | apply Kd.R_alloc | apply Kd.R_drewN | apply Kd.R_drew)); exact HO_6.out⟩, ⟨by (with_reducible repeat (first | refine blk_drewN ?_ _ | refine blk_drew ?_ | refine blk_alloc ?_ _)); exact BK122.out⟩, ⟨by repeat (first | (with_reducible first | exact HB.out | apply below_alloc | apply pw_below_drewN | apply below_drew1 | refine below_set ?_ GE122.out) | exact HB.out)⟩⟩
                                  · rw [if_neg c32] at H
                                    have c32b0 : decide ((l0.length : Int) < ((rd_T42 l1 x19_2).f1)) = false := decide_eq_false c32
                                    clear c32
                                    have H' := Aside0.mk H
                                    clear H
                                    have hcz34_0 : wc.cell? ⟨gb122, 0, none⟩ = some (.bool ((rd_T42 l1 x19_2).f0)) := (blk_cell BK122.out 0).trans rfl
                                    have hcz34_1 : wc.cell? ⟨gb122, 1, none⟩ = some (.int .i64 ((rd_T42 l1 x19_2).f1)) := (blk_cell BK122.out 1).trans rfl
                                    have hcz34_2 : wc.cell? ⟨gb122, 2, none⟩ = some (.int .i64 ((rd_T42 l1 x19_2).f2)) := (blk_cell BK122.out 2).trans rfl
                                    have hcz34_3 : wc.cell? ⟨gb122, 3, none⟩ = some (.slice A121_3 ((rd_T42 l1 x19_2).f3).length c121_3) := (blk_cell BK122.out 3).trans rfl
                                    have hfz34_0 := blk_frozen BK122.out 0
                                    have hfz34_1 := blk_frozen BK122.out 1
                                    have hfz34_2 := blk_frozen BK122.out 2
                                    have hfz34_3 := blk_frozen BK122.out 3
                                    go_wp2
                                    go_meet
                                    case rel => exact ⟨_, (decide (((rd_T42 l1 x19_2).f2) > (wrap64 ((l0.length : Int) - ((rd_T42 l1 x19_2).f1))))), (by first | rfl | (simp; done) | (simp [*]; done)), H', ⟨by have := HJ2.out; have := HK2.out; have := HJ8.out; have := HJ18.out; first | omega | exact Nat.le_refl _⟩, ⟨by (with_reducible repeat (first | apply Kd.R_alloc | apply Kd.R_drewN | apply Kd.R_drew)); exact HO_6.out⟩, ⟨by (with_reducible repeat (first | refine blk_drewN ?_ _ | refine blk_drew ?_ | refine blk_alloc ?_ _)); exact BK122.out⟩, ⟨by repeat (first | (with_reducible first | exact HB.out | apply below_alloc | apply pw_below_drewN | apply below_drew1 | refine below_set ?_ GE122.out) | exact HB.out)⟩⟩
                            case rest =>
                              clear HC27
                              try clear c1
                              try clear p1
                              try clear q1
                              try clear hx1
                              try clear c2
                              try clear p2
                              try clear c3
                              try clear c4
                              try clear c4b0
                              try clear c4b1
                              try clear c5
                              try clear c6
                              try clear c6b0
                              try clear p6
                              try clear c7
                              try clear c7b0
                              try clear c8
                              try clear c8b0
                              try clear c12
                              try clear p12
                              try clear q12
                              try clear hx12
                              try clear q15
                              try clear c16
                              try clear c20
                              try clear c21
                              try clear c21b0
                              try clear c21b1
                              try clear c23
                              try clear c23b0
                              try clear c23b1
                              try clear c26
                              try clear c28
                              try clear c28b0
                              try clear c28b1
                              try clear c30
                              try clear c30b0
                              try clear c32
                              try clear c32b0
                              try clear hcz11_0
                              try clear hcz11_1
                              try clear hcz11_2
                              try clear hcz11_3
                              try clear hcz12_0
                              try clear hcz12_1
                              try clear hcz12_2
                              try clear hcz12_3
                              try clear hcz13_0
                              try clear hcz13_1
                              try clear hcz13_2
                              try clear hcz13_3
                              try clear hcz14_0
                              try clear hcz14_1
                              try clear hcz14_2
                              try clear hcz14_3
                              try clear hcz17_0
                              try clear hcz17_1
                              try clear hcz17_2
                              try clear hcz17_3
                              try clear hcz18_0
                              try clear hcz18_1
                              try clear hcz18_2
                              try clear hcz18_3
                              try clear hcz22_0
                              try clear hcz22_1
                              try clear hcz22_2
                              try clear hcz22_3
                              try clear hcz24_0
                              try clear hcz24_1
                              try clear hcz24_2
                              try clear hcz24_3
                              try clear hcz25_0
                              try clear hcz25_1
                              try clear hcz25_2
                              try clear hcz25_3
                              try clear hcz29_0
                              try clear hcz29_1
                              try clear hcz29_2
                              try clear hcz29_3
                              try clear hcz31_0
                              try clear hcz31_1
                              try clear hcz31_2
                              try clear hcz31_3
                              try clear hcz33_0
                              try clear hcz33_1
                              try clear hcz33_2
                              try clear hcz33_3
                              try clear hcz34_0
                              try clear hcz34_1
                              try clear hcz34_2
                              try clear hcz34_3
                              try clear hfz11_0
                              try clear hfz11_1
                              try clear hfz11_2
                              try clear hfz11_3
                              try clear hfz17_0
                              try clear hfz17_1
                              try clear hfz17_2
                              try clear hfz17_3
                              try clear hfz18_0
                              try clear hfz18_1
                              try clear hfz18_2
                              try clear hfz18_3
                              try clear hfz22_0
                              try clear hfz22_1
                              try clear hfz22_2
                              try clear hfz22_3
                              try clear hfz24_0
                              try clear hfz24_1
                              try clear hfz24_2
                              try clear hfz24_3
                              try clear hfz25_0
                              try clear hfz25_1
                              try clear hfz25_2
                              try clear hfz25_3
                              try clear hfz29_0
                              try clear hfz29_1
                              try clear hfz29_2
                              try clear hfz29_3
                              try clear hfz31_0
                              try clear hfz31_1
                              try clear hfz31_2
                              try clear hfz31_3
                              try clear hfz33_0
                              try clear hfz33_1
                              try clear hfz33_2
                              try clear hfz33_3
                              try clear hfz34_0
                              try clear hfz34_1
                              try clear hfz34_2
                              try clear hfz34_3
                              try clear hx121_0
                              try clear hx121_1
                              try clear hx121_2
                              try clear hx121_3
                              try clear p1
                              try clear p12
                              try clear p121
                              try clear p2
                              try clear q1
                              try clear q12
                              try clear q121
                              try clear q15
                              obtain ⟨kq, x45_26, rfl, HA, HJ26, HO_6, BK122, HB⟩ := hcut
                              cases kq with
                              | zero => exact absurd HA.out (by simp [delta_Patch.j4])
                              | succ kj26 =>
                                have H := HA.out
                                clear HA
                                simp only [delta_Patch.j4] at H
                                by_cases c35 : x45_26 = true
                                · subst c35
                                  have H1 : (some (([] : List Int), 2)) = some (r1, r2) := by rw [if_pos rfl] at H; exact H
                                  clear H
                                  have H := H1
                                  clear H1
                                  simp only [Option.some.injEq, Prod.mk.injEq] at H
                                  obtain ⟨rfl, rfl⟩ := H
                                  go_wp2
                                  go_ret2
                                  exact ⟨_, by first | rfl | (simp [errW_none, errW_some] <;> rfl) | (simp [*, errW_none, errW_some] <;> rfl), by first | exact Kd.R_nil _ _ _ _ _ | exact Kd.N_nil _ _ _ _ _ | exact Kd.V_nil _ _ _ _ _ | exact Kd.Q_nil _ _ _ _ _ | exact Kd.S_nil _ _ _ _ _, by repeat (first | (with_reducible first | exact HB.out | apply below_alloc | apply pw_below_drewN | apply below_drew1 | refine below_set ?_ GE122.out) | exact HB.out)⟩
                                · replace c35 := Bool.eq_false_iff.mpr c35
                                  subst c35
                                  have H1 : (if 0 ≤ ((rd_T42 l1 x19_2).f1) then (if ((rd_T42 l1 x19_2).f1) ≤ (wrap64 (((rd_T42 l1 x19_2).f1) + ((rd_T42 l1 x19_2).f2))) then (if (wrap64 (((rd_T42 l1 x19_2).f1) + ((rd_T42 l1 x19_2).f2))) ≤ (l0.length : Int) then (if x6_2.length + ((l0.take ((wrap64 (((rd_T42 l1 x19_2).f1) + ((rd_T42 l1 x19_2).f2))) : Int).toNat).drop (((rd_T42 l1 x19_2).f1) : Int).toNat).length < 140737488355328 then ((some (x6_2 ++ ((l0.take ((wrap64 (((rd_T42 l1 x19_2).f1) + ((rd_T42 l1 x19_2).f2))) : Int).toNat).drop (((rd_T42 l1 x19_2).f1) : Int).toNat) : List Int)).bind fun y124 => (if y124.length + ((rd_T42 l1 x19_2).f3).length < 140737488355328 then ((some (y124 ++ ((rd_T42 l1 x19_2).f3) : List Int)).bind fun y127 => (if (y127.length : Int) > 2048 then (some (([] : List Int), 11)) else (delta_Patch.l0 kj26 l0 y127 l1 (l1.length : Int) (wrap64 (x19_2 + 1))))) else (none))) else (none)) else (none)) else (none)) else (none)) = some (r1, r2) := by rw [if_neg (show ¬ (false = true) by decide)] at H; exact H
                                  clear H
                                  have H := H1
                                  clear H1
                                  by_cases c36 : 0 ≤ ((rd_T42 l1 x19_2).f1)
                                  · rw [if_pos c36] at H
                                    have c36b0 := eq_true c36
                                    have c36b1 : decide (0 ≤ ((rd_T42 l1 x19_2).f1)) = true := decide_eq_true c36
                                    clear c36
                                    by_cases c37 : ((rd_T42 l1 x19_2).f1) ≤ (wrap64 (((rd_T42 l1 x19_2).f1) + ((rd_T42 l1 x19_2).f2)))
                                    · rw [if_pos c37] at H
                                      have c37b0 := eq_true c37
                                      have c37b1 : decide (((rd_T42 l1 x19_2).f1) ≤ (wrap64 (((rd_T42 l1 x19_2).f1) + ((rd_T42 l1 x19_2).f2)))) = true := decide_eq_true c37
                                      by_cases c38 : (wrap64 (((rd_T42 l1 x19_2).f1) + ((rd_T42 l1 x19_2).f2))) ≤ (l0.length : Int)
                                      · rw [if_pos c38] at H
                                        have c38b0 := eq_true c38
                                        have c38b1 : decide ((wrap64 (((rd_T42 l1 x19_2).f1) + ((rd_T42 l1 x19_2).f2))) ≤ (l0.length : Int)) = true := decide_eq_true c38
                                        by_cases c39 : x6_2.length + ((l0.take ((wrap64 (((rd_T42 l1 x19_2).f1) + ((rd_T42 l1 x19_2).f2))) : Int).toNat).drop (((rd_T42 l1 x19_2).f1) : Int).toNat).length < 140737488355328
                                        · rw [if_pos c39] at H
                                          have LMc39 := Aside0.mk c39
                                          clear c39
                                          obtain ⟨y124, hy124⟩ : ∃ y_ : List Int, y_ = (x6_2 ++ ((l0.take ((wrap64 (((rd_T42 l1 x19_2).f1) + ((rd_T42 l1 x19_2).f2))) : Int).toNat).drop (((rd_T42 l1 x19_2).f1) : Int).toNat)) := ⟨_, rfl⟩
                                          replace H : (if y124.length + ((rd_T42 l1 x19_2).f3).length < 140737488355328 then ((some (y124 ++ ((rd_T42 l1 x19_2).f3) : List Int)).bind fun y127 => (if (y127.length : Int) > 2048 then (some (([] : List Int), 11)) else (delta_Patch.l0 kj26 l0 y127 l1 (l1.length : Int) (wrap64 (x19_2 + 1))))) else (none)) = some (r1, r2) := by first | (rw [hy124]; with_reducible exact H) | (have H2_ := (Option.bind_some _ _).symm.trans H; rw [hy124]; with_reducible exact H2_) | (have H2_ := (Option.bind_some _ _).symm.trans H; with_reducible exact H2_) | with_reducible exact H | (rw [hy124]; exact H) | exact H
                                          have Ny124 := Aside0.mk hy124
                                          clear hy124
                                          by_cases c40 : y124.length + ((rd_T42 l1 x19_2).f3).length < 140737488355328
                                          · rw [if_pos c40] at H
                                            have LMc40 := Aside0.mk c40
                                            clear c40
                                            obtain ⟨y127, hy127⟩ : ∃ y_ : List Int, y_ = (y124 ++ ((rd_T42 l1 x19_2).f3)) := ⟨_, rfl⟩
                                            replace H : (if (y127.length : Int) > 2048 then (some (([] : List Int), 11)) else (delta_Patch.l0 kj26 l0 y127 l1 (l1.length : Int) (wrap64 (x19_2 + 1)))) = some (r1, r2) := by first | (rw [hy127]; with_reducible exact H) | (have H2_ := (Option.bind_some _ _).symm.trans H; rw [hy127]; with_reducible exact H2_) | (have H2_ := (Option.bind_some _ _).symm.trans H; with_reducible exact H2_) | with_reducible exact H | (rw [hy127]; exact H) | exact H
                                            have Ny127 := Aside0.mk hy127
                                            clear hy127
                                            by_cases c41 : (y127.length : Int) > 2048
                                            · rw [if_pos c41] at H
                                              have c41b0 : decide (2048 < (y127.length : Int)) = true := decide_eq_true c41
                                              have c41b1 : decide (2048 < y127.length) = true := decide_eq_true (by omega)
                                              clear c41
                                              simp only [Option.some.injEq, Prod.mk.injEq] at H
                                              obtain ⟨rfl, rfl⟩ := H
                                              try go_wp2
                                              have n0_ := Aside0.mk (Kd.R_drew HO_6.out)
                                              have n1_ := Aside0.mk (blk_drew BK122.out)
                                              have n2_ := Aside0.mk (below_drew1 HB.out)
                                              clear HO_6
                                              clear BK122
                                              clear HB
                                              have HO_6 := n0_
                                              have BK122 := n1_
                                              have HB := n2_
                                              clear n0_ n1_ n2_
                                              obtain ⟨i043, hi043, _, hsz43, _⟩ := info_parts info5
                                              obtain ⟨A43, hcut43, hA43, hC43⟩ := print_mid_of (P := Try.prog) (Value.int .u8) 0 23 5 .i64 .i64 Try.underlying23 hi043 hsz43 A0 c0 l0 ((rd_T42 l1 x19_2).f1) (wrap64 (((rd_T42 l1 x19_2).f1) + ((rd_T42 l1 x19_2).f2))) (of_decide_eq_true (by first | (with_reducible assumption) | assumption)) (by first | omega | exact of_decide_eq_true (by first | (with_reducible assumption) | assumption)) (of_decide_eq_true (by first | (with_reducible assumption) | assumption)) HC0.out
                                              have HR123 := Aside0.mk (Kd.C_of_reads (h1 := fun _ => rfl) (hA43 _ (Kd.reads_of_C HR0.out)))
                                              have HC123 := Aside0.mk hC43
                                              clear hA43 hC43 hi043 hsz43
                                              refine start_ (n := 15) (S := fun w' => w'.cell? ⟨gb122, 0, none⟩ = some (.bool ((rd_T42 l1 x19_2).f0)) ∧ w'.cell? ⟨gb122, 1, none⟩ = some (.int .i64 ((rd_T42 l1 x19_2).f1)) ∧ w'.cell? ⟨gb122, 2, none⟩ = some (.int .i64 ((rd_T42 l1 x19_2).f2)) ∧ w'.cell? ⟨gb122, 3, none⟩ = some (.slice A121_3 ((rd_T42 l1 x19_2).f3).length c121_3)) (ds := []) #[false, false, false, false, false, false, false, false, false, false, false, false, false, false, false] (by kernel_rfl) rfl rfl ⟨(blk_cell BK122.out 0).trans rfl, (blk_cell BK122.out 1).trans rfl, (blk_cell BK122.out 2).trans rfl, (blk_cell BK122.out 3).trans rfl⟩ (fun hHeld => ?_); refine with_tabW delta_Patch.tab12 delta_Patch.bits12 (fun HT_ HW_ => ?_)
                                              generalize wc.drew = w42 at HO_6 BK122 HB HR123 hHeld ⊢
                                              refine pure_ (i := 0) (N := some 71) (v := ?_) (a' := ?_) #[true, false, false, false, false, false, false, false, false, false, false, false, false, false, false] rfl rfl (any_of HT_.out (by kernel_rfl)) (fun _ _ _ h => h) (Or.inl ⟨by rfl, ?_⟩) ?_ ?_
                                              rotate_left
                                              · intro w'
                                                go_simp
                                                with_reducible rfl
                                              rotate_left
                                              · simp only [Act.put, List.setIfInBounds_toArray, List.set_cons_zero, List.set_cons_succ, i64_w, i32_w]
                                                rfl
                                              refine pure_ (i := 1) (N := some 72) (v := ?_) (a' := ?_) #[true, true, false, false, false, false, false, false, false, false, false, false, false, false, false] rfl rfl (any_of HT_.out (by kernel_rfl)) (fun _ _ _ h => h) (Or.inl ⟨by rfl, ?_⟩) ?_ ?_
                                              rotate_left
                                              · intro w'
                                                go_simp
                                                with_reducible rfl
                                              rotate_left
                                              · simp only [Act.put, List.setIfInBounds_toArray, List.set_cons_zero, List.set_cons_succ, i64_w, i32_w]
                                                rfl
                                              refine pure_ (i := 2) (N := some 73) (v := ?_) (a' := ?_) #[true, true, true, false, false, false, false, false, false, false, false, false, false, false, false] rfl rfl (any_of HT_.out (by kernel_rfl)) (fun _ _ _ h => h) (Or.inl ⟨by rfl, ?_⟩) ?_ ?_
                                              rotate_left
                                              · intro w'
                                                go_simp
                                                with_reducible rfl
                                              rotate_left
                                              · simp only [Act.put, List.setIfInBounds_toArray, List.set_cons_zero, List.set_cons_succ, i64_w, i32_w]
                                                rfl
                                              refine pure_ (i := 4) (N := some 75) (v := ?_) (a' := ?_) #[true, true, true, false, true, false, false, false, false, false, false, false, false, false, false] rfl rfl (any_of HT_.out (by kernel_rfl)) (fun _ _ _ h => h) (Or.inl ⟨by rfl, ?_⟩) ?_ ?_
                                              rotate_left
                                              · intro w'
                                                go_simp
                                                with_reducible rfl
                                              rotate_left
                                              · simp only [Act.put, List.setIfInBounds_toArray, List.set_cons_zero, List.set_cons_succ, i64_w, i32_w]
                                                rfl
                                              refine pure_ (i := 6) (N := some 77) (v := ?_) (a' := ?_) #[true, true, true, false, true, false, true, false, false, false, false, false, false, false, false] rfl rfl (any_of HT_.out (by kernel_rfl)) (fun _ _ _ h => h) (Or.inl ⟨by rfl, ?_⟩) ?_ ?_
                                              rotate_left
                                              · intro w'
                                                go_simp
                                                with_reducible rfl
                                              rotate_left
                                              · simp only [Act.put, List.setIfInBounds_toArray, List.set_cons_zero, List.set_cons_succ, i64_w, i32_w]
                                                rfl
                                              refine pure_ (i := 11) (N := some 82) (v := ?_) (a' := ?_) #[true, true, true, false, true, false, true, false, false, false, false, true, false, false, false] rfl rfl (any_of HT_.out (by kernel_rfl)) (fun _ _ _ h => h) (Or.inl ⟨by rfl, ?_⟩) ?_ ?_
                                              rotate_left
                                              · intro w'
                                                go_simp
                                                with_reducible rfl
                                              rotate_left
                                              · simp only [Act.put, List.setIfInBounds_toArray, List.set_cons_zero, List.set_cons_succ, i64_w, i32_w]
                                                rfl
                                              refine take_ (i := 3) (N := some 74) (v := ?_) (a' := ?_) #[true, true, true, true, true, false, true, false, false, false, false, true, false, false, false] rfl rfl (take_ofW HT_.out HW_.out (by kernel_rfl)) (fun _ _ _ h => h) (Or.inl ⟨by rfl, ?_⟩) hHeld ?_ ?_
                                              rotate_left
                                              · rintro w' ⟨s0, s1, s2, s3⟩
                                                go_simp
                                                with_reducible rfl
                                              rotate_left
                                              · simp only [Act.put, List.setIfInBounds_toArray, List.set_cons_zero, List.set_cons_succ, i64_w, i32_w]
                                                rfl
                                              refine take_ (i := 5) (N := some 76) (v := ?_) (a' := ?_) #[true, true, true, true, true, true, true, false, false, false, false, true, false, false, false] rfl rfl (take_ofW HT_.out HW_.out (by kernel_rfl)) (fun _ _ _ h => h) (Or.inl ⟨by rfl, ?_⟩) hHeld ?_ ?_
                                              rotate_left
                                              · rintro w' ⟨s0, s1, s2, s3⟩
                                                go_simp
                                                with_reducible rfl
                                              rotate_left
                                              · simp only [Act.put, List.setIfInBounds_toArray, List.set_cons_zero, List.set_cons_succ, i64_w, i32_w]
                                                rfl
                                              refine take_ (i := 7) (N := some 78) (v := ?_) (a' := ?_) #[true, true, true, true, true, true, true, true, false, false, false, true, false, false, false] rfl rfl (take_ofW HT_.out HW_.out (by kernel_rfl)) (fun _ _ _ h => h) (Or.inl ⟨by rfl, ?_⟩) hHeld ?_ ?_
                                              rotate_left
                                              · rintro w' ⟨s0, s1, s2, s3⟩
                                                go_simp
                                                with_reducible rfl
                                              rotate_left
                                              · simp only [Act.put, List.setIfInBounds_toArray, List.set_cons_zero, List.set_cons_succ, i64_w, i32_w]
                                                rfl
                                              refine pure_ (i := 8) (N := some 79) (v := ?_) (a' := ?_) #[true, true, true, true, true, true, true, true, true, false, false, true, false, false, false] rfl rfl (any_of HT_.out (by kernel_rfl)) (fun _ _ _ h => h) (Or.inl ⟨by rfl, ?_⟩) ?_ ?_
                                              rotate_left
                                              · intro w'
                                                go_simp
                                                with_reducible rfl
                                              rotate_left
                                              · simp only [Act.put, List.setIfInBounds_toArray, List.set_cons_zero, List.set_cons_succ, i64_w, i32_w]
                                                rfl
                                              refine pure_ (i := 9) (N := some 80) (v := ?_) (a' := ?_) #[true, true, true, true, true, true, true, true, true, true, false, true, false, false, false] rfl rfl (any_of HT_.out (by kernel_rfl)) (fun _ _ _ h => h) (Or.inl ⟨by rfl, ?_⟩) ?_ ?_
                                              rotate_left
                                              · intro w'
                                                go_simp
                                                with_reducible rfl
                                              rotate_left
                                              · simp only [Act.put, List.setIfInBounds_toArray, List.set_cons_zero, List.set_cons_succ, i64_w, i32_w]
                                                rfl
                                              refine take_ (i := 12) (N := some 83) (v := ?_) (a' := ?_) #[true, true, true, true, true, true, true, true, true, true, false, true, true, false, false] rfl rfl (take_ofW HT_.out HW_.out (by kernel_rfl)) (fun _ _ _ h => h) (Or.inl ⟨by rfl, ?_⟩) hHeld ?_ ?_
                                              rotate_left
                                              · rintro w' ⟨s0, s1, s2, s3⟩
                                                go_simp
                                                with_reducible rfl
                                              rotate_left
                                              · simp only [Act.put, List.setIfInBounds_toArray, List.set_cons_zero, List.set_cons_succ, i64_w, i32_w]
                                                rfl
                                              refine one_ (i := 10) (N := some 81) #[true, true, true, true, true, true, true, true, true, true, true, true, true, false, false] rfl rfl (one_of HT_.out (by kernel_rfl)) (by decide) (fun K hK => ?_)
                                              refine Kd.R_append_rows_step (Kd.int .u8) (w0 := w) w.heap.size (by rfl) (.tmp 71) (.tmp 80) 23 5 (.int .u8 0) 1 rfl Try.underlying23 info5 rfl (by decide) (by omega) u6 x6_2 ((l0.take ((wrap64 (((rd_T42 l1 x19_2).f1) + ((rd_T42 l1 x19_2).f2))) : Int).toNat).drop (((rd_T42 l1 x19_2).f1) : Int).toNat) _ _ _ (fun _ => True) (fun _ => False) rfl rfl ?aO ?aR (fun _ _ h => h) (fun _ h => h.elim) ?aF ?aB ?aS ?aL ?_
                                              (case aR => first | (refine rr_len_ (show ((l0.take ((wrap64 (((rd_T42 l1 x19_2).f1) + ((rd_T42 l1 x19_2).f2))) : Int).toNat).drop (((rd_T42 l1 x19_2).f1) : Int).toNat).length = ((wrap64 (((rd_T42 l1 x19_2).f1) + ((rd_T42 l1 x19_2).f2))).toNat - ((rd_T42 l1 x19_2).f1).toNat) from (by rw [List.length_drop, List.length_take]; have h_ : ((wrap64 (((rd_T42 l1 x19_2).f1) + ((rd_T42 l1 x19_2).f2))) : Int) ≤ (l0.length : Int) := of_decide_eq_true (by first | (with_reducible assumption) | assumption); omega)) ?_; repeat (first | exact (Kd.C_below HR123.out HB.out) | (with_reducible refine Kd.C_alloc ?_ _) | (with_reducible refine Kd.C_drewN ?_ _) | (with_reducible refine Kd.C_drew ?_))) | (rw [← show ((l0.take ((wrap64 (((rd_T42 l1 x19_2).f1) + ((rd_T42 l1 x19_2).f2))) : Int).toNat).drop (((rd_T42 l1 x19_2).f1) : Int).toNat).length = ((wrap64 (((rd_T42 l1 x19_2).f1) + ((rd_T42 l1 x19_2).f2))).toNat - ((rd_T42 l1 x19_2).f1).toNat) from (by rw [List.length_drop, List.length_take]; have h_ : ((wrap64 (((rd_T42 l1 x19_2).f1) + ((rd_T42 l1 x19_2).f2))) : Int) ≤ (l0.length : Int) := of_decide_eq_true (by first | (with_reducible assumption) | assumption); omega)]; repeat (first | exact (Kd.C_below HR123.out HB.out) | (with_reducible refine Kd.C_alloc ?_ _) | (with_reducible refine Kd.C_drewN ?_ _) | (with_reducible refine Kd.C_drew ?_))) | (repeat (first | exact (Kd.C_below HR123.out HB.out) | (with_reducible refine Kd.C_alloc ?_ _) | (with_reducible refine Kd.C_drewN ?_ _) | (with_reducible refine Kd.C_drew ?_))))
                                              (case aB => exact (by repeat (first | (with_reducible first | exact HB.out | apply below_alloc | apply pw_below_drewN | apply below_drew1 | refine below_set ?_ GE122.out) | exact HB.out)))
                                              (case aF => exact (fun _ _ => trivial))
                                              (case aO => exact (by (with_reducible repeat (first | apply Kd.R_alloc | apply Kd.R_drewN | apply Kd.R_drew)); exact HO_6.out))
                                              (case aS => exact (below_size (by repeat (first | (with_reducible first | exact HB.out | apply below_alloc | apply pw_below_drewN | apply below_drew1 | refine below_set ?_ GE122.out) | exact HB.out))))
                                              (case aL => have := LMc39.out; have hlx_ := (show ((l0.take ((wrap64 (((rd_T42 l1 x19_2).f1) + ((rd_T42 l1 x19_2).f2))) : Int).toNat).drop (((rd_T42 l1 x19_2).f1) : Int).toNat).length = ((wrap64 (((rd_T42 l1 x19_2).f1) + ((rd_T42 l1 x19_2).f2))).toNat - ((rd_T42 l1 x19_2).f1).toNat) from (by rw [List.length_drop, List.length_take]; have h_ : ((wrap64 (((rd_T42 l1 x19_2).f1) + ((rd_T42 l1 x19_2).f2))) : Int) ≤ (l0.length : Int) := of_decide_eq_true (by first | (with_reducible assumption) | assumption); omega)); omega)
                                              intro v125 w44 ho hb hg hat
                                              rw [← Ny124.out] at ho
                                              have n0_ := Aside0.mk (blk_grown (g := gb122) (o := .cells #[.bool ((rd_T42 l1 x19_2).f0), .int .i64 ((rd_T42 l1 x19_2).f1), .int .i64 ((rd_T42 l1 x19_2).f2), .slice A121_3 ((rd_T42 l1 x19_2).f3).length c121_3] 42 (0, 0)) (by (with_reducible repeat (first | refine blk_drewN ?_ _ | refine blk_drew ?_ | refine blk_alloc ?_ _)); exact BK122.out) hg (Kd.R_ne HO_6.out BK122.out (by decide)))
                                              have n1_ := Aside0.mk (hb)
                                              have n2_ := Aside0.mk (ho)
                                              clear BK122
                                              clear HB
                                              clear HO_6
                                              have BK122 := n0_
                                              have HB := n1_
                                              have HO126 := n2_
                                              clear n0_ n1_ n2_
                                              clear ho hb hg hat
                                              refine hK.out _ _ ⟨(blk_cell BK122.out 0).trans rfl, (blk_cell BK122.out 1).trans rfl, (blk_cell BK122.out 2).trans rfl, (blk_cell BK122.out 3).trans rfl⟩ (fun hHeld => ?_)
                                              clear hK K
                                              refine norm_ (a' := ?_) ?_ ?_
                                              rotate_left
                                              · show Act.put _ (some 81) _ = _
                                                simp only [Act.put, List.setIfInBounds_toArray, List.set_cons_zero, List.set_cons_succ, i64_w, i32_w]
                                                rfl
                                              refine one_ (i := 13) (N := some 84) #[true, true, true, true, true, true, true, true, true, true, true, true, true, true, false] rfl rfl (one_of HT_.out (by kernel_rfl)) (by decide) (fun K hK => ?_)
                                              refine Kd.R_append_rows_step (Kd.int .u8) (w0 := w) w.heap.size (by rfl) (.tmp 81) (.tmp 83) 23 5 (.int .u8 0) 1 rfl Try.underlying23 info5 rfl (by decide) (by omega) v125 y124 ((rd_T42 l1 x19_2).f3) _ _ _ (fun _ => True) (fun _ => False) rfl rfl ?aO ?aR (fun _ _ h => h) (fun _ h => h.elim) ?aF ?aB ?aS ?aL ?_
                                              (case aR => repeat (first | exact (Kd.C_below HR121_3.out HB.out) | (with_reducible refine Kd.C_alloc ?_ _) | (with_reducible refine Kd.C_drewN ?_ _) | (with_reducible refine Kd.C_drew ?_)))
                                              (case aB => exact (by repeat (first | (with_reducible first | exact HB.out | apply below_alloc | apply pw_below_drewN | apply below_drew1 | refine below_set ?_ GE122.out) | exact HB.out)))
                                              (case aF => exact (fun _ _ => trivial))
                                              (case aO => exact (by (with_reducible repeat (first | apply Kd.R_alloc | apply Kd.R_drewN | apply Kd.R_drew)); exact HO126.out))
                                              (case aS => exact (below_size (by repeat (first | (with_reducible first | exact HB.out | apply below_alloc | apply pw_below_drewN | apply below_drew1 | refine below_set ?_ GE122.out) | exact HB.out))))
                                              (case aL => have := LMc40.out; omega)
                                              intro v128 w45 ho hb hg hat
                                              rw [← Ny127.out] at ho
                                              have n0_ := Aside0.mk (blk_grown (g := gb122) (o := .cells #[.bool ((rd_T42 l1 x19_2).f0), .int .i64 ((rd_T42 l1 x19_2).f1), .int .i64 ((rd_T42 l1 x19_2).f2), .slice A121_3 ((rd_T42 l1 x19_2).f3).length c121_3] 42 (0, 0)) (by (with_reducible repeat (first | refine blk_drewN ?_ _ | refine blk_drew ?_ | refine blk_alloc ?_ _)); exact BK122.out) hg (Kd.R_ne HO126.out BK122.out (by decide)))
                                              have n1_ := Aside0.mk (hb)
                                              have n2_ := Aside0.mk (ho)
                                              clear BK122
                                              clear HB
                                              clear HO126
                                              have BK122 := n0_
                                              have HB := n1_
                                              have HO129 := n2_
                                              clear n0_ n1_ n2_
                                              clear ho hb hg hat
                                              refine hK.out _ _ ⟨(blk_cell BK122.out 0).trans rfl, (blk_cell BK122.out 1).trans rfl, (blk_cell BK122.out 2).trans rfl, (blk_cell BK122.out 3).trans rfl⟩ (fun hHeld => ?_)
                                              clear hK K
                                              refine norm_ (a' := ?_) ?_ ?_
                                              rotate_left
                                              · show Act.put _ (some 84) _ = _
                                                simp only [Act.put, List.setIfInBounds_toArray, List.set_cons_zero, List.set_cons_succ, i64_w, i32_w]
                                                rfl
                                              refine pure_ (i := 14) (N := some 6) (v := ?_) (a' := ?_) #[true, true, true, true, true, true, true, true, true, true, true, true, true, true, true] rfl rfl (any_of HT_.out (by kernel_rfl)) (fun _ _ _ h => h) (Or.inl ⟨by rfl, ?_⟩) ?_ ?_
                                              rotate_left
                                              · intro w'
                                                go_simp
                                                with_reducible rfl
                                              rotate_left
                                              · simp only [Act.put, List.setIfInBounds_toArray, List.set_cons_zero, List.set_cons_succ, i64_w, i32_w]
                                                rfl
                                              refine done_ (done_of HT_.out (by kernel_rfl)) ?_
                                              obtain ⟨Ao46, co46, eo46⟩ := Kd.R_slice HO129.out
                                              subst eo46
                                              try go_wp2
                                              go_ret2
                                              exact ⟨_, by first | rfl | (simp [errW_none, errW_some] <;> rfl) | (simp [*, errW_none, errW_some] <;> rfl), by first | exact Kd.R_nil _ _ _ _ _ | exact Kd.N_nil _ _ _ _ _ | exact Kd.V_nil _ _ _ _ _ | exact Kd.Q_nil _ _ _ _ _ | exact Kd.S_nil _ _ _ _ _, by repeat (first | (with_reducible first | exact HB.out | apply below_alloc | apply pw_below_drewN | apply below_drew1 | refine below_set ?_ GE122.out) | exact HB.out)⟩
                                            · rw [if_neg c41] at H
                                              have c41b0 : decide (2048 < (y127.length : Int)) = false := decide_eq_false c41
                                              have c41b1 : decide (2048 < y127.length) = false := decide_eq_false (by omega)
                                              clear c41
                                              have H' := Aside0.mk H
                                              clear H
                                              try go_wp2
                                              have n0_ := Aside0.mk (Kd.R_drew HO_6.out)
                                              have n1_ := Aside0.mk (blk_drew BK122.out)
                                              have n2_ := Aside0.mk (below_drew1 HB.out)
                                              clear HO_6
                                              clear BK122
                                              clear HB
                                              have HO_6 := n0_
                                              have BK122 := n1_
                                              have HB := n2_
                                              clear n0_ n1_ n2_
                                              obtain ⟨i048, hi048, _, hsz48, _⟩ := info_parts info5
                                              obtain ⟨A48, hcut48, hA48, hC48⟩ := print_mid_of (P := Try.prog) (Value.int .u8) 0 23 5 .i64 .i64 Try.underlying23 hi048 hsz48 A0 c0 l0 ((rd_T42 l1 x19_2).f1) (wrap64 (((rd_T42 l1 x19_2).f1) + ((rd_T42 l1 x19_2).f2))) (of_decide_eq_true (by first | (with_reducible assumption) | assumption)) (by first | omega | exact of_decide_eq_true (by first | (with_reducible assumption) | assumption)) (of_decide_eq_true (by first | (with_reducible assumption) | assumption)) HC0.out
                                              have HR123 := Aside0.mk (Kd.C_of_reads (h1 := fun _ => rfl) (hA48 _ (Kd.reads_of_C HR0.out)))
                                              have HC123 := Aside0.mk hC48
                                              clear hA48 hC48 hi048 hsz48
                                              refine start_ (n := 15) (S := fun w' => w'.cell? ⟨gb122, 0, none⟩ = some (.bool ((rd_T42 l1 x19_2).f0)) ∧ w'.cell? ⟨gb122, 1, none⟩ = some (.int .i64 ((rd_T42 l1 x19_2).f1)) ∧ w'.cell? ⟨gb122, 2, none⟩ = some (.int .i64 ((rd_T42 l1 x19_2).f2)) ∧ w'.cell? ⟨gb122, 3, none⟩ = some (.slice A121_3 ((rd_T42 l1 x19_2).f3).length c121_3)) (ds := []) #[false, false, false, false, false, false, false, false, false, false, false, false, false, false, false] (by kernel_rfl) rfl rfl ⟨(blk_cell BK122.out 0).trans rfl, (blk_cell BK122.out 1).trans rfl, (blk_cell BK122.out 2).trans rfl, (blk_cell BK122.out 3).trans rfl⟩ (fun hHeld => ?_); refine with_tabW delta_Patch.tab12 delta_Patch.bits12 (fun HT_ HW_ => ?_)
                                              generalize wc.drew = w47 at HO_6 BK122 HB HR123 hHeld ⊢
                                              refine pure_ (i := 0) (N := some 71) (v := ?_) (a' := ?_) #[true, false, false, false, false, false, false, false, false, false, false, false, false, false, false] rfl rfl (any_of HT_.out (by kernel_rfl)) (fun _ _ _ h => h) (Or.inl ⟨by rfl, ?_⟩) ?_ ?_
                                              rotate_left
                                              · intro w'
                                                go_simp
                                                with_reducible rfl
                                              rotate_left
                                              · simp only [Act.put, List.setIfInBounds_toArray, List.set_cons_zero, List.set_cons_succ, i64_w, i32_w]
                                                rfl
                                              refine pure_ (i := 1) (N := some 72) (v := ?_) (a' := ?_) #[true, true, false, false, false, false, false, false, false, false, false, false, false, false, false] rfl rfl (any_of HT_.out (by kernel_rfl)) (fun _ _ _ h => h) (Or.inl ⟨by rfl, ?_⟩) ?_ ?_
                                              rotate_left
                                              · intro w'
                                                go_simp
                                                with_reducible rfl
                                              rotate_left
                                              · simp only [Act.put, List.setIfInBounds_toArray, List.set_cons_zero, List.set_cons_succ, i64_w, i32_w]
                                                rfl
                                              refine pure_ (i := 2) (N := some 73) (v := ?_) (a' := ?_) #[true, true, true, false, false, false, false, false, false, false, false, false, false, false, false] rfl rfl (any_of HT_.out (by kernel_rfl)) (fun _ _ _ h => h) (Or.inl ⟨by rfl, ?_⟩) ?_ ?_
                                              rotate_left
                                              · intro w'
                                                go_simp
                                                with_reducible rfl
                                              rotate_left
                                              · simp only [Act.put, List.setIfInBounds_toArray, List.set_cons_zero, List.set_cons_succ, i64_w, i32_w]
                                                rfl
                                              refine pure_ (i := 4) (N := some 75) (v := ?_) (a' := ?_) #[true, true, true, false, true, false, false, false, false, false, false, false, false, false, false] rfl rfl (any_of HT_.out (by kernel_rfl)) (fun _ _ _ h => h) (Or.inl ⟨by rfl, ?_⟩) ?_ ?_
                                              rotate_left
                                              · intro w'
                                                go_simp
                                                with_reducible rfl
                                              rotate_left
                                              · simp only [Act.put, List.setIfInBounds_toArray, List.set_cons_zero, List.set_cons_succ, i64_w, i32_w]
                                                rfl
                                              refine pure_ (i := 6) (N := some 77) (v := ?_) (a' := ?_) #[true, true, true, false, true, false, true, false, false, false, false, false, false, false, false] rfl rfl (any_of HT_.out (by kernel_rfl)) (fun _ _ _ h => h) (Or.inl ⟨by rfl, ?_⟩) ?_ ?_
                                              rotate_left
                                              · intro w'
                                                go_simp
                                                with_reducible rfl
                                              rotate_left
                                              · simp only [Act.put, List.setIfInBounds_toArray, List.set_cons_zero, List.set_cons_succ, i64_w, i32_w]
                                                rfl
                                              refine pure_ (i := 11) (N := some 82) (v := ?_) (a' := ?_) #[true, true, true, false, true, false, true, false, false, false, false, true, false, false, false] rfl rfl (any_of HT_.out (by kernel_rfl)) (fun _ _ _ h => h) (Or.inl ⟨by rfl, ?_⟩) ?_ ?_
                                              rotate_left
                                              · intro w'
                                                go_simp
                                                with_reducible rfl
                                              rotate_left
                                              · simp only [Act.put, List.setIfInBounds_toArray, List.set_cons_zero, List.set_cons_succ, i64_w, i32_w]
                                                rfl
                                              refine take_ (i := 3) (N := some 74) (v := ?_) (a' := ?_) #[true, true, true, true, true, false, true, false, false, false, false, true, false, false, false] rfl rfl (take_ofW HT_.out HW_.out (by kernel_rfl)) (fun _ _ _ h => h) (Or.inl ⟨by rfl, ?_⟩) hHeld ?_ ?_
                                              rotate_left
                                              · rintro w' ⟨s0, s1, s2, s3⟩
                                                go_simp
                                                with_reducible rfl
                                              rotate_left
                                              · simp only [Act.put, List.setIfInBounds_toArray, List.set_cons_zero, List.set_cons_succ, i64_w, i32_w]
                                                rfl
                                              refine take_ (i := 5) (N := some 76) (v := ?_) (a' := ?_) #[true, true, true, true, true, true, true, false, false, false, false, true, false, false, false] rfl rfl (take_ofW HT_.out HW_.out (by kernel_rfl)) (fun _ _ _ h => h) (Or.inl ⟨by rfl, ?_⟩) hHeld ?_ ?_
                                              rotate_left
                                              · rintro w' ⟨s0, s1, s2, s3⟩
                                                go_simp
                                                with_reducible rfl
                                              rotate_left
                                              · simp only [Act.put, List.setIfInBounds_toArray, List.set_cons_zero, List.set_cons_succ, i64_w, i32_w]
                                                rfl
                                              refine take_ (i := 7) (N := some 78) (v := ?_) (a' := ?_) #[true, true, true, true, true, true, true, true, false, false, false, true, false, false, false] rfl rfl (take_ofW HT_.out HW_.out (by kernel_rfl)) (fun _ _ _ h => h) (Or.inl ⟨by rfl, ?_⟩) hHeld ?_ ?_
                                              rotate_left
                                              · rintro w' ⟨s0, s1, s2, s3⟩
                                                go_simp
                                                with_reducible rfl
                                              rotate_left
                                              · simp only [Act.put, List.setIfInBounds_toArray, List.set_cons_zero, List.set_cons_succ, i64_w, i32_w]
                                                rfl
                                              refine pure_ (i := 8) (N := some 79) (v := ?_) (a' := ?_) #[true, true, true, true, true, true, true, true, true, false, false, true, false, false, false] rfl rfl (any_of HT_.out (by kernel_rfl)) (fun _ _ _ h => h) (Or.inl ⟨by rfl, ?_⟩) ?_ ?_
                                              rotate_left
                                              · intro w'
                                                go_simp
                                                with_reducible rfl
                                              rotate_left
                                              · simp only [Act.put, List.setIfInBounds_toArray, List.set_cons_zero, List.set_cons_succ, i64_w, i32_w]
                                                rfl
                                              refine pure_ (i := 9) (N := some 80) (v := ?_) (a' := ?_) #[true, true, true, true, true, true, true, true, true, true, false, true, false, false, false] rfl rfl (any_of HT_.out (by kernel_rfl)) (fun _ _ _ h => h) (Or.inl ⟨by rfl, ?_⟩) ?_ ?_
                                              rotate_left
                                              · intro w'
                                                go_simp
                                                with_reducible rfl
                                              rotate_left
                                              · simp only [Act.put, List.setIfInBounds_toArray, List.set_cons_zero, List.set_cons_succ, i64_w, i32_w]
                                                rfl
                                              refine take_ (i := 12) (N := some 83) (v := ?_) (a' := ?_) #[true, true, true, true, true, true, true, true, true, true, false, true, true, false, false] rfl rfl (take_ofW HT_.out HW_.out (by kernel_rfl)) (fun _ _ _ h => h) (Or.inl ⟨by rfl, ?_⟩) hHeld ?_ ?_
                                              rotate_left
                                              · rintro w' ⟨s0, s1, s2, s3⟩
                                                go_simp
                                                with_reducible rfl
                                              rotate_left
                                              · simp only [Act.put, List.setIfInBounds_toArray, List.set_cons_zero, List.set_cons_succ, i64_w, i32_w]
                                                rfl
                                              refine one_ (i := 10) (N := some 81) #[true, true, true, true, true, true, true, true, true, true, true, true, true, false, false] rfl rfl (one_of HT_.out (by kernel_rfl)) (by decide) (fun K hK => ?_)
                                              refine Kd.R_append_rows_step (Kd.int .u8) (w0 := w) w.heap.size (by rfl) (.tmp 71) (.tmp 80) 23 5 (.int .u8 0) 1 rfl Try.underlying23 info5 rfl (by decide) (by omega) u6 x6_2 ((l0.take ((wrap64 (((rd_T42 l1 x19_2).f1) + ((rd_T42 l1 x19_2).f2))) : Int).toNat).drop (((rd_T42 l1 x19_2).f1) : Int).toNat) _ _ _ (fun _ => True) (fun _ => False) rfl rfl ?aO ?aR (fun _ _ h => h) (fun _ h => h.elim) ?aF ?aB ?aS ?aL ?_
                                              (case aR => first | (refine rr_len_ (show ((l0.take ((wrap64 (((rd_T42 l1 x19_2).f1) + ((rd_T42 l1 x19_2).f2))) : Int).toNat).drop (((rd_T42 l1 x19_2).f1) : Int).toNat).length = ((wrap64 (((rd_T42 l1 x19_2).f1) + ((rd_T42 l1 x19_2).f2))).toNat - ((rd_T42 l1 x19_2).f1).toNat) from (by rw [List.length_drop, List.length_take]; have h_ : ((wrap64 (((rd_T42 l1 x19_2).f1) + ((rd_T42 l1 x19_2).f2))) : Int) ≤ (l0.length : Int) := of_decide_eq_true (by first | (with_reducible assumption) | assumption); omega)) ?_; repeat (first | exact (Kd.C_below HR123.out HB.out) | (with_reducible refine Kd.C_alloc ?_ _) | (with_reducible refine Kd.C_drewN ?_ _) | (with_reducible refine Kd.C_drew ?_))) | (rw [← show ((l0.take ((wrap64 (((rd_T42 l1 x19_2).f1) + ((rd_T42 l1 x19_2).f2))) : Int).toNat).drop (((rd_T42 l1 x19_2).f1) : Int).toNat).length = ((wrap64 (((rd_T42 l1 x19_2).f1) + ((rd_T42 l1 x19_2).f2))).toNat - ((rd_T42 l1 x19_2).f1).toNat) from (by rw [List.length_drop, List.length_take]; have h_ : ((wrap64 (((rd_T42 l1 x19_2).f1) + ((rd_T42 l1 x19_2).f2))) : Int) ≤ (l0.length : Int) := of_decide_eq_true (by first | (with_reducible assumption) | assumption); omega)]; repeat (first | exact (Kd.C_below HR123.out HB.out) | (with_reducible refine Kd.C_alloc ?_ _) | (with_reducible refine Kd.C_drewN ?_ _) | (with_reducible refine Kd.C_drew ?_))) | (repeat (first | exact (Kd.C_below HR123.out HB.out) | (with_reducible refine Kd.C_alloc ?_ _) | (with_reducible refine Kd.C_drewN ?_ _) | (with_reducible refine Kd.C_drew ?_))))
                                              (case aB => exact (by repeat (first | (with_reducible first | exact HB.out | apply below_alloc | apply pw_below_drewN | apply below_drew1 | refine below_set ?_ GE122.out) | exact HB.out)))
                                              (case aF => exact (fun _ _ => trivial))
                                              (case aO => exact (by (with_reducible repeat (first | apply Kd.R_alloc | apply Kd.R_drewN | apply Kd.R_drew)); exact HO_6.out))
                                              (case aS => exact (below_size (by repeat (first | (with_reducible first | exact HB.out | apply below_alloc | apply pw_below_drewN | apply below_drew1 | refine below_set ?_ GE122.out) | exact HB.out))))
                                              (case aL => have := LMc39.out; have hlx_ := (show ((l0.take ((wrap64 (((rd_T42 l1 x19_2).f1) + ((rd_T42 l1 x19_2).f2))) : Int).toNat).drop (((rd_T42 l1 x19_2).f1) : Int).toNat).length = ((wrap64 (((rd_T42 l1 x19_2).f1) + ((rd_T42 l1 x19_2).f2))).toNat - ((rd_T42 l1 x19_2).f1).toNat) from (by rw [List.length_drop, List.length_take]; have h_ : ((wrap64 (((rd_T42 l1 x19_2).f1) + ((rd_T42 l1 x19_2).f2))) : Int) ≤ (l0.length : Int) := of_decide_eq_true (by first | (with_reducible assumption) | assumption); omega)); omega)
                                              intro v125 w49 ho hb hg hat
                                              rw [← Ny124.out] at ho
                                              have n0_ := Aside0.mk (blk_grown (g := gb122) (o := .cells #[.bool ((rd_T42 l1 x19_2).f0), .int .i64 ((rd_T42 l1 x19_2).f1), .int .i64 ((rd_T42 l1 x19_2).f2), .slice A121_3 ((rd_T42 l1 x19_2).f3).length c121_3] 42 (0, 0)) (by (with_reducible repeat (first | refine blk_drewN ?_ _ | refine blk_drew ?_ | refine blk_alloc ?_ _)); exact BK122.out) hg (Kd.R_ne HO_6.out BK122.out (by decide)))
                                              have n1_ := Aside0.mk (hb)
                                              have n2_ := Aside0.mk (ho)
                                              clear BK122
                                              clear HB
                                              clear HO_6
                                              have BK122 := n0_
                                              have HB := n1_
                                              have HO126 := n2_
                                              clear n0_ n1_ n2_
                                              clear ho hb hg hat
                                              refine hK.out _ _ ⟨(blk_cell BK122.out 0).trans rfl, (blk_cell BK122.out 1).trans rfl, (blk_cell BK122.out 2).trans rfl, (blk_cell BK122.out 3).trans rfl⟩ (fun hHeld => ?_)
                                              clear hK K
                                              refine norm_ (a' := ?_) ?_ ?_
                                              rotate_left
                                              · show Act.put _ (some 81) _ = _
                                                simp only [Act.put, List.setIfInBounds_toArray, List.set_cons_zero, List.set_cons_succ, i64_w, i32_w]
                                                rfl
                                              refine one_ (i := 13) (N := some 84) #[true, true, true, true, true, true, true, true, true, true, true, true, true, true, false] rfl rfl (one_of HT_.out (by kernel_rfl)) (by decide) (fun K hK => ?_)
                                              refine Kd.R_append_rows_step (Kd.int .u8) (w0 := w) w.heap.size (by rfl) (.tmp 81) (.tmp 83) 23 5 (.int .u8 0) 1 rfl Try.underlying23 info5 rfl (by decide) (by omega) v125 y124 ((rd_T42 l1 x19_2).f3) _ _ _ (fun _ => True) (fun _ => False) rfl rfl ?aO ?aR (fun _ _ h => h) (fun _ h => h.elim) ?aF ?aB ?aS ?aL ?_
                                              (case aR => repeat (first | exact (Kd.C_below HR121_3.out HB.out) | (with_reducible refine Kd.C_alloc ?_ _) | (with_reducible refine Kd.C_drewN ?_ _) | (with_reducible refine Kd.C_drew ?_)))
                                              (case aB => exact (by repeat (first | (with_reducible first | exact HB.out | apply below_alloc | apply pw_below_drewN | apply below_drew1 | refine below_set ?_ GE122.out) | exact HB.out)))
                                              (case aF => exact (fun _ _ => trivial))
                                              (case aO => exact (by (with_reducible repeat (first | apply Kd.R_alloc | apply Kd.R_drewN | apply Kd.R_drew)); exact HO126.out))
                                              (case aS => exact (below_size (by repeat (first | (with_reducible first | exact HB.out | apply below_alloc | apply pw_below_drewN | apply below_drew1 | refine below_set ?_ GE122.out) | exact HB.out))))
                                              (case aL => have := LMc40.out; omega)
                                              intro v128 w50 ho hb hg hat
                                              rw [← Ny127.out] at ho
                                              have n0_ := Aside0.mk (blk_grown (g := gb122) (o := .cells #[.bool ((rd_T42 l1 x19_2).f0), .int .i64 ((rd_T42 l1 x19_2).f1), .int .i64 ((rd_T42 l1 x19_2).f2), .slice A121_3 ((rd_T42 l1 x19_2).f3).length c121_3] 42 (0, 0)) (by (with_reducible repeat (first | refine blk_drewN ?_ _ | refine blk_drew ?_ | refine blk_alloc ?_ _)); exact BK122.out) hg (Kd.R_ne HO126.out BK122.out (by decide)))
                                              have n1_ := Aside0.mk (hb)
                                              have n2_ := Aside0.mk (ho)
                                              clear BK122
                                              clear HB
                                              clear HO126
                                              have BK122 := n0_
                                              have HB := n1_
                                              have HO129 := n2_
                                              clear n0_ n1_ n2_
                                              clear ho hb hg hat
                                              refine hK.out _ _ ⟨(blk_cell BK122.out 0).trans rfl, (blk_cell BK122.out 1).trans rfl, (blk_cell BK122.out 2).trans rfl, (blk_cell BK122.out 3).trans rfl⟩ (fun hHeld => ?_)
                                              clear hK K
                                              refine norm_ (a' := ?_) ?_ ?_
                                              rotate_left
                                              · show Act.put _ (some 84) _ = _
                                                simp only [Act.put, List.setIfInBounds_toArray, List.set_cons_zero, List.set_cons_succ, i64_w, i32_w]
                                                rfl
                                              refine pure_ (i := 14) (N := some 6) (v := ?_) (a' := ?_) #[true, true, true, true, true, true, true, true, true, true, true, true, true, true, true] rfl rfl (any_of HT_.out (by kernel_rfl)) (fun _ _ _ h => h) (Or.inl ⟨by rfl, ?_⟩) ?_ ?_
                                              rotate_left
                                              · intro w'
                                                go_simp
                                                with_reducible rfl
                                              rotate_left
                                              · simp only [Act.put, List.setIfInBounds_toArray, List.set_cons_zero, List.set_cons_succ, i64_w, i32_w]
                                                rfl
                                              refine done_ (done_of HT_.out (by kernel_rfl)) ?_
                                              obtain ⟨Ao51, co51, eo51⟩ := Kd.R_slice HO129.out
                                              subst eo51
                                              try go_wp2
                                              go_roundg kj26
                                              case measure => have := HJ2.out; have := HK2.out; have := HJ8.out; have := HJ18.out; have := HJ26.out; omega
                                              case rel => exact ⟨(y127), (wrap64 (x19_2 + 1)), (by first | rfl | (simp; done) | (simp [*]; done)), H', ⟨by have := HJ2.out; have := HK2.out; have := HJ8.out; have := HJ18.out; have := HJ26.out; omega⟩, ⟨by (with_reducible repeat (first | apply Kd.R_alloc | apply Kd.R_drewN | apply Kd.R_drew)); exact HO129.out⟩, ⟨by repeat (first | (with_reducible first | exact HB.out | apply below_alloc | apply pw_below_drewN | apply below_drew1 | refine below_set ?_ GE122.out) | exact HB.out)⟩⟩
                                          · rw [if_neg c40] at H
                                            exact absurd H (by simp)
                                        · rw [if_neg c39] at H
                                          exact absurd H (by simp)
                                      · rw [if_neg c38] at H
                                        exact absurd H (by simp)
                                    · rw [if_neg c37] at H
                                      exact absurd H (by simp)
                                  · rw [if_neg c36] at H
                                    exact absurd H (by simp)
                · rw [if_neg c8] at H
                  exact absurd H (by simp)
              · rw [if_neg c7] at H
                exact absurd H (by simp)
            · rw [if_neg c6] at H
              have c6b0 : decide (x19_2 < (l1.length : Int)) = false := decide_eq_false c6
              clear c6
              replace H := Option.bind_eq_some_iff.mp H
              obtain ⟨t118, A520, H⟩ := H
              replace H : (some (t118, 0)) = some (r1, r2) := H
              have A52 := Aside0.mk A520
              clear A520
              simp only [Option.some.injEq, Prod.mk.injEq] at H
              obtain ⟨rfl, rfl⟩ := H
              obtain ⟨Ao53, co53, eo53⟩ := Kd.R_slice HO_6.out
              subst eo53
              go_wp2_with (first | ((with_reducible refine gate_callee (f := 25) rfl ?_); refine goesL_ (some 90) rfl rfl Try.func25 (by kernel_rfl) rfl #[.slice Ao53 x6_2.length co53] rfl (by (try simp only [List.map_toArray, List.map_cons, List.map_nil]); first | done | rfl | (simp only [List.length_drop, List.length_take]; rfl)) ?_; (with_reducible refine (slices_Clone_byte_byte.calls _ _ x6_2 t118 _ ?side1 ?side2 A52.out).mono ?_); (case side1 => repeat (first | exact (Kd.R_reads' HO_6.out).2.2 | (with_reducible refine Kd.C_alloc ?_ _) | (with_reducible refine Kd.C_drewN ?_ _) | (with_reducible refine Kd.C_drew ?_))); (case side2 => exact (Kd.R_reads' HO_6.out).2.1); rintro e w54 ⟨v119, rfl, ho0, hb⟩; refine ⟨_, rfl, ?_⟩; have n0_ := Aside0.mk (Kd.R_elder' (by (with_reducible repeat (first | apply Kd.R_alloc | apply Kd.R_drewN | apply Kd.R_drew)); exact HO_6.out) (Kd.R_base ho0) hb); have n1_ := Aside0.mk (Kd.R_lower (Kd.R_new' ho0 (Kd.R_lt (by (with_reducible repeat (first | apply Kd.R_alloc | apply Kd.R_drewN | apply Kd.R_drew)); exact HO_6.out))) (below_size (by repeat (first | (with_reducible first | exact HB.out | apply below_alloc | apply pw_below_drewN | apply below_drew1) | exact HB.out)))); have n2_ := Aside0.mk (below_step (by repeat (first | (with_reducible first | exact HB.out | apply below_alloc | apply pw_below_drewN | apply below_drew1) | exact HB.out)) hb); clear HO_6; clear HB; have HO_6 := n0_; have HO120 := n1_; have HB := n2_; clear n0_ n1_ n2_; (try clear hb); (try clear hb2); (try clear hk); (try clear hi); (try clear ho0)))
              go_ret2
              exact ⟨_, by first | rfl | (simp [errW_none, errW_some] <;> rfl) | (simp [*, errW_none, errW_some] <;> rfl), by (with_reducible repeat (first | apply Kd.R_alloc | apply Kd.R_drewN | apply Kd.R_drew)); exact Kd.R_mono HO120.out (fun _ hk => trivial), by repeat (first | (with_reducible first | exact HB.out | apply below_alloc | apply pw_below_drewN | apply below_drew1) | exact HB.out)⟩

end Go.Proofs.Ytblkhkipbcpaiaa.PPatchParts
