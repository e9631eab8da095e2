/- Printed by a program of this session (wip/myprint.py): Go functions of the law as Lean functions, and the proof that the code comes to these answers. -/
import Derived.Test.YtfckgffeoepaaaaPInetTurnedx0
import Derived.Test.YtfckgffeoepaaaaPInetTurnedx1
namespace Go.Proofs.Ytfckgffeoepaaaa.PInetTurned
open Go.RowKit Go.Proofs.YtfckgffeoepaaaaW.PrintWords Go.Proofs.YtfckgffeoepaaaaW.PrintLast Go.Proofs.YtfckgffeoepaaaaW.PrintMore
attribute [local go_sem] max2_int min2_int max_two min_two max_three min_three max_four min_four   -- for this text's walks alone
set_option linter.unusedVariables false
set_option linter.unusedSimpArgs false

/-! ### packthreadkeep_InetTurned: function 3 -/
mutual
def packthreadkeep_InetTurned.l0 : Nat → Int → Int → Int → List Int → Int → List Int → Int → Option (Bool)
  | 0, _, _, _, _, _, _, _ => none
  | k + 1, x1, x2, x3, x9, x10, x11, x12 => if x12 < x10 then ((packthreadkeep_Picked.f x1 x10).bind fun t123 => (if x10 = 0 then (none) else (if 0 ≤ (wrap64 (2 * (Int.tmod (wrap64 (x12 + t123)) x10))) then (if (wrap64 (2 * (Int.tmod (wrap64 (x12 + t123)) x10))) < (x9.length : Int) then (if 0 ≤ (wrap64 ((wrap64 (2 * (Int.tmod (wrap64 (x12 + t123)) x10))) + 1)) then (if (wrap64 ((wrap64 (2 * (Int.tmod (wrap64 (x12 + t123)) x10))) + 1)) < (x9.length : Int) then ((some (([rd x9 (wrap64 (2 * (Int.tmod (wrap64 (x12 + t123)) x10))), rd x9 (wrap64 ((wrap64 (2 * (Int.tmod (wrap64 (x12 + t123)) x10))) + 1))] : List Int) : List Int)).bind fun y126 => (if ([] : List Int).length + y126.length < 140737488355328 then ((some (([] : List Int) ++ y126 : List Int)).bind fun y129 => (if y129.length + x11.length < 140737488355328 then (packthreadkeep_InetTurned.l0 k x1 x2 x3 x9 x10 (y129 ++ x11) (wrap64 (x12 + 1))) else (none))) else (none))) else (none)) else (none)) else (none)) else (none)))) else ((packthreadkeep_Picked.f x2 x10).bind fun t135 => ((packthreadkeep_Picked.f x3 65536).bind fun t136 => (if ([] : List Int).length + x9.length < 140737488355328 then ((some (([] : List Int) ++ x9 : List Int)).bind fun y137 => (if 0 ≤ (wrap64 (t135 * 2)) then (if (wrap64 (t135 * 2)) < (y137.length : Int) then (if 0 ≤ (wrap64 ((wrap64 (t135 * 2)) + 1)) then (if (wrap64 ((wrap64 (t135 * 2)) + 1)) < (y137.length : Int) then ((some ((y137.set ((wrap64 (t135 * 2)) : Int).toNat ((t136 / 256) % 256)).set ((wrap64 ((wrap64 (t135 * 2)) + 1)) : Int).toNat ((t136) % 256) : List Int)).bind fun y141 => (if (wrap64 (t135 * 2)) < (x9.length : Int) then (if (wrap64 ((wrap64 (t135 * 2)) + 1)) < (x9.length : Int) then (if (Go.bits .or .i64 (wrap64 ((wrap64 (rd x9 (wrap64 (t135 * 2)))) * 256)) (wrap64 (rd x9 (wrap64 ((wrap64 (t135 * 2)) + 1))))) = t136 then (packthreadkeep_InetTurned.j1 k x9 x11 y141 true) else (if (wrap64 ((Go.bits .or .i64 (wrap64 ((wrap64 (rd x9 (wrap64 (t135 * 2)))) * 256)) (wrap64 (rd x9 (wrap64 ((wrap64 (t135 * 2)) + 1))))) + t136)) = 65535 then (if (Go.bits .or .i64 (wrap64 ((wrap64 (rd x9 (wrap64 (t135 * 2)))) * 256)) (wrap64 (rd x9 (wrap64 ((wrap64 (t135 * 2)) + 1))))) = 0 then (packthreadkeep_InetTurned.j1 k x9 x11 y141 true) else (packthreadkeep_InetTurned.j1 k x9 x11 y141 (t136 == 0))) else (packthreadkeep_InetTurned.j1 k x9 x11 y141 false))) else (none)) else (none))) else (none)) else (none)) else (none)) else (none))) else (none))))
def packthreadkeep_InetTurned.j1 : Nat → List Int → List Int → List Int → Bool → Option (Bool)
  | 0, _, _, _, _ => none
  | k + 1, x9, x11, x16, x18 => (inet_Fold.f k x16).bind fun t144 => ((inet_Fold.f k x9).bind fun t145 => ((packthreadkeep_inetSure.f k).bind fun t146 => (if t146 = true then ((inet_Fold.f k x9).bind fun t147 => ((inet_Fold.f k x11).bind fun t148 => (if t147 = t148 then (if ((t144 == t145) == x18) = true then (some true) else (if x18 = true then ((inet_Fold.f k x9).bind fun t149 => ((inet_Fold.f k x16).bind fun t150 => (some ((wrap64 (t149 * t150)) == 0)))) else (some false))) else (some false)))) else (some false))))
end
def packthreadkeep_InetTurned.f (k : Nat) (l0 : List Int) (a1 : Int) (a2 : Int) (a3 : Int) : Option (Bool) := (packthreadkeep_Octets.f l0 400).bind fun t111 => ((some (([3, 4] : List Int) : List Int)).bind fun y114 => (if t111.length + y114.length < 140737488355328 then ((some (t111 ++ y114 : List Int)).bind fun y117 => (if 0 ≤ (wrap64 ((y117.length : Int) - ((y117.length : Int) % 2))) then (if (wrap64 ((y117.length : Int) - ((y117.length : Int) % 2))) ≤ (y117.length : Int) then ((some (y117.take ((wrap64 ((y117.length : Int) - ((y117.length : Int) % 2))) : Int).toNat : List Int)).bind fun y120 => (packthreadkeep_InetTurned.l0 k a1 a2 a3 y120 (wrap64 ((y120.length : Int) / 2)) ([] : List Int) 0)) else (none)) else (none))) else (none)))
theorem packthreadkeep_InetTurned.mono_l : ∀ k, (∀ y0 y1 y2 y3 y4 y5 y6, LeO (packthreadkeep_InetTurned.l0 k y0 y1 y2 y3 y4 y5 y6) (packthreadkeep_InetTurned.l0 (k + 1) y0 y1 y2 y3 y4 y5 y6)) ∧ (∀ y0 y1 y2 y3, LeO (packthreadkeep_InetTurned.j1 k y0 y1 y2 y3) (packthreadkeep_InetTurned.j1 (k + 1) y0 y1 y2 y3))
  | 0 => ⟨fun _ _ _ _ _ _ _ r h => by simp [packthreadkeep_InetTurned.l0] at h, fun _ _ _ _ r h => by simp [packthreadkeep_InetTurned.j1] at h⟩
  | k + 1 => by
    obtain ⟨ih0, ih1⟩ := packthreadkeep_InetTurned.mono_l k
    refine ⟨?_, ?_⟩
    · intro y0 y1 y2 y3 y4 y5 y6
      unfold packthreadkeep_InetTurned.l0
      repeat' first
      | (with_reducible exact ih0 _ _ _ _ _ _ _)
      | (with_reducible exact ih1 _ _ _ _)
      | (with_reducible exact inet_Fold.mono _ _)
      | (with_reducible exact packthreadkeep_inetSure.mono _)
      | (with_reducible exact LeO.refl _)
      | (with_reducible exact LeO.none _)
      | (with_reducible refine LeO.ite ?_ ?_)
      | (with_reducible refine LeO.bind ?_ (fun _ => ?_))
      | exact ih0 _ _ _ _ _ _ _
      | exact ih1 _ _ _ _
      | exact inet_Fold.mono _ _
      | exact packthreadkeep_inetSure.mono _
      | exact LeO.none _
      | refine LeO.ite ?_ ?_
      | refine LeO.bind ?_ (fun _ => ?_)
    · intro y0 y1 y2 y3
      unfold packthreadkeep_InetTurned.j1
      repeat' first
      | (with_reducible exact ih0 _ _ _ _ _ _ _)
      | (with_reducible exact ih1 _ _ _ _)
      | (with_reducible exact inet_Fold.mono _ _)
      | (with_reducible exact packthreadkeep_inetSure.mono _)
      | (with_reducible exact LeO.refl _)
      | (with_reducible exact LeO.none _)
      | (with_reducible refine LeO.ite ?_ ?_)
      | (with_reducible refine LeO.bind ?_ (fun _ => ?_))
      | exact ih0 _ _ _ _ _ _ _
      | exact ih1 _ _ _ _
      | exact inet_Fold.mono _ _
      | exact packthreadkeep_inetSure.mono _
      | exact LeO.none _
      | refine LeO.ite ?_ ?_
      | refine LeO.bind ?_ (fun _ => ?_)
theorem packthreadkeep_InetTurned.mono : ∀ a0 a1 a2 a3 k, LeO (packthreadkeep_InetTurned.f k a0 a1 a2 a3) (packthreadkeep_InetTurned.f (k + 1) a0 a1 a2 a3) := by
  intro a0 a1 a2 a3 k
  obtain ⟨ih0, ih1⟩ := packthreadkeep_InetTurned.mono_l k
  unfold packthreadkeep_InetTurned.f
  repeat' first
      | (with_reducible exact ih0 _ _ _ _ _ _ _)
      | (with_reducible exact ih1 _ _ _ _)
      | (with_reducible exact inet_Fold.mono _ _)
      | (with_reducible exact packthreadkeep_inetSure.mono _)
      | (with_reducible exact LeO.refl _)
      | (with_reducible exact LeO.none _)
      | (with_reducible refine LeO.ite ?_ ?_)
      | (with_reducible refine LeO.bind ?_ (fun _ => ?_))
      | exact ih0 _ _ _ _ _ _ _
      | exact ih1 _ _ _ _
      | exact inet_Fold.mono _ _
      | exact packthreadkeep_inetSure.mono _
      | exact LeO.none _
      | refine LeO.ite ?_ ?_
      | refine LeO.bind ?_ (fun _ => ?_)
def packthreadkeep_InetTurned.T9 : Bool × List (List Nat × List Nat) := (true, [([], []), ([], []), ([1], [1]), ([0, 2], [0, 2]), ([3], [3]), ([], []), ([], []), ([6], [6]), ([7], [7]), ([5, 8], [5, 8]), ([9], [9]), ([4, 10], [4, 10]), ([11], [11]), ([], []), ([12, 13, 12], [12, 13]), ([14, 14, 0, 1, 2, 3, 4, 5, 6, 7, 8, 9, 10, 11, 12, 13, 14], [13, 14])])
def packthreadkeep_InetTurned.B9 : List Nat := [0, 0, 2, 7, 15, 0, 0, 64, 192, 480, 992, 2047, 4095, 0, 16383, 32767]
theorem packthreadkeep_InetTurned.tab9 : rtab .any (opsOf Try.f3 9) = packthreadkeep_InetTurned.T9 := by kernel_rfl
theorem packthreadkeep_InetTurned.bits9 : waitsOk packthreadkeep_InetTurned.T9.2 packthreadkeep_InetTurned.B9 = true := by kernel_rfl
def packthreadkeep_InetTurned.T15 : Bool × List (List Nat × List Nat) := (true, [([], []), ([], []), ([0, 1], [0, 1]), ([2], [2]), ([3], [3]), ([4], [4]), ([], []), ([], []), ([7], [7]), ([6, 8], [6, 8]), ([9], [9]), ([10], [10]), ([5, 11], [5, 11]), ([12, 0, 1, 2, 3, 4, 5, 6, 7, 8, 9, 10, 11, 12], [12])])
def packthreadkeep_InetTurned.B15 : List Nat := [0, 0, 3, 7, 15, 31, 0, 0, 128, 448, 960, 1984, 4095, 8191]
theorem packthreadkeep_InetTurned.tab15 : rtab .any (opsOf Try.f3 15) = packthreadkeep_InetTurned.T15 := by kernel_rfl
theorem packthreadkeep_InetTurned.bits15 : waitsOk packthreadkeep_InetTurned.T15.2 packthreadkeep_InetTurned.B15 = true := by kernel_rfl
set_option maxHeartbeats 8000000 in
set_option maxRecDepth 100000 in
theorem packthreadkeep_InetTurned.calls (k : Nat) (A0 : Option Addr) (c0 : Nat) (l0 : List Int) (a1 : Int) (a2 : Int) (a3 : Int) (r : Bool) (w : World) (hr0 : Kd.C (Kd.int .u8) w A0 l0.length l0) (hc0 : l0.length ≤ c0) (h : packthreadkeep_InetTurned.f k l0 a1 a2 a3 = some r) :
    Calls Try.prog 3 #[.slice A0 l0.length c0, .int .i64 a1, .int .i64 a2, .int .i64 a3] w fun e w' => e = .returned (.bool r) ∧ Below w.heap.size w w' := by
  have HR0 := Aside0.mk hr0
  have HC0 := Aside0.mk hc0
  clear hr0 hc0
  have HB := Aside0.mk (Below.refl w.heap.size w)
  have H : ((packthreadkeep_Octets.f l0 400).bind fun t111 => ((some (([3, 4] : List Int) : List Int)).bind fun y114 => (if t111.length + y114.length < 140737488355328 then ((some (t111 ++ y114 : List Int)).bind fun y117 => (if 0 ≤ (wrap64 ((y117.length : Int) - ((y117.length : Int) % 2))) then (if (wrap64 ((y117.length : Int) - ((y117.length : Int) % 2))) ≤ (y117.length : Int) then ((some (y117.take ((wrap64 ((y117.length : Int) - ((y117.length : Int) % 2))) : Int).toNat : List Int)).bind fun y120 => (packthreadkeep_InetTurned.l0 k a1 a2 a3 y120 (wrap64 ((y120.length : Int) / 2)) ([] : List Int) 0)) else (none)) else (none))) else (none)))) = some r := h
  clear h
  replace H := Option.bind_eq_some_iff.mp H
  obtain ⟨t111, A50, H⟩ := H
  replace H : ((some (([3, 4] : List Int) : List Int)).bind fun y114 => (if t111.length + y114.length < 140737488355328 then ((some (t111 ++ y114 : List Int)).bind fun y117 => (if 0 ≤ (wrap64 ((y117.length : Int) - ((y117.length : Int) % 2))) then (if (wrap64 ((y117.length : Int) - ((y117.length : Int) % 2))) ≤ (y117.length : Int) then ((some (y117.take ((wrap64 ((y117.length : Int) - ((y117.length : Int) % 2))) : Int).toNat : List Int)).bind fun y120 => (packthreadkeep_InetTurned.l0 k a1 a2 a3 y120 (wrap64 ((y120.length : Int) / 2)) ([] : List Int) 0)) else (none)) else (none))) else (none))) = some r := H
  have A5 := Aside0.mk A50
  clear A50
  obtain ⟨y114, hy114⟩ : ∃ y_ : List Int, y_ = (([3, 4] : List Int)) := ⟨_, rfl⟩
  replace H : (if t111.length + y114.length < 140737488355328 then ((some (t111 ++ y114 : List Int)).bind fun y117 => (if 0 ≤ (wrap64 ((y117.length : Int) - ((y117.length : Int) % 2))) then (if (wrap64 ((y117.length : Int) - ((y117.length : Int) % 2))) ≤ (y117.length : Int) then ((some (y117.take ((wrap64 ((y117.length : Int) - ((y117.length : Int) % 2))) : Int).toNat : List Int)).bind fun y120 => (packthreadkeep_InetTurned.l0 k a1 a2 a3 y120 (wrap64 ((y120.length : Int) / 2)) ([] : List Int) 0)) else (none)) else (none))) else (none)) = some r := by first | (rw [hy114]; with_reducible exact H) | (have H2_ := (Option.bind_some _ _).symm.trans H; rw [hy114]; with_reducible exact H2_) | (have H2_ := (Option.bind_some _ _).symm.trans H; with_reducible exact H2_) | with_reducible exact H | (rw [hy114]; exact H) | exact H
  have Ny114 := Aside0.mk hy114
  clear hy114
  by_cases c6 : t111.length + y114.length < 140737488355328
  · rw [if_pos c6] at H
    have LMc6 := Aside0.mk c6
    clear c6
    obtain ⟨y117, hy117⟩ : ∃ y_ : List Int, y_ = (t111 ++ y114) := ⟨_, rfl⟩
    replace H : (if 0 ≤ (wrap64 ((y117.length : Int) - ((y117.length : Int) % 2))) then (if (wrap64 ((y117.length : Int) - ((y117.length : Int) % 2))) ≤ (y117.length : Int) then ((some (y117.take ((wrap64 ((y117.length : Int) - ((y117.length : Int) % 2))) : Int).toNat : List Int)).bind fun y120 => (packthreadkeep_InetTurned.l0 k a1 a2 a3 y120 (wrap64 ((y120.length : Int) / 2)) ([] : List Int) 0)) else (none)) else (none)) = some r := by first | (rw [hy117]; with_reducible exact H) | (have H2_ := (Option.bind_some _ _).symm.trans H; rw [hy117]; with_reducible exact H2_) | (have H2_ := (Option.bind_some _ _).symm.trans H; with_reducible exact H2_) | with_reducible exact H | (rw [hy117]; exact H) | exact H
    have Ny117 := Aside0.mk hy117
    clear hy117
    obtain ⟨ji7, hji7⟩ : ∃ j_ : Int, (wrap64 ((y117.length : Int) - ((y117.length : Int) % 2))) = j_ := ⟨_, rfl⟩
    replace H : (if 0 ≤ (ji7) then (if (ji7) ≤ (y117.length : Int) then ((some (y117.take ((ji7) : Int).toNat : List Int)).bind fun y120 => (packthreadkeep_InetTurned.l0 k a1 a2 a3 y120 (wrap64 ((y120.length : Int) / 2)) ([] : List Int) 0)) else (none)) else (none)) = some r := by first | (rw [hji7] at H; exact H) | (simp only [hji7] at H ⊢; exact H)
    (try rw [hji7] at A5)
    have hji7w : (IntKind.i64.wrap ((y117.length : Int) - ((y117.length : Int) % 2))) = ji7 := (i64_w _).trans hji7
    by_cases c8 : 0 ≤ (ji7)
    · rw [if_pos c8] at H
      have c8b0 := eq_true c8
      have c8b1 : decide (0 ≤ (ji7)) = true := decide_eq_true c8
      clear c8
      by_cases c9 : (ji7) ≤ (y117.length : Int)
      · rw [if_pos c9] at H
        have c9b0 := eq_true c9
        have c9b1 : decide ((ji7) ≤ (y117.length : Int)) = true := decide_eq_true c9
        clear c9
        obtain ⟨y120, hy120⟩ : ∃ y_ : List Int, y_ = (y117.take ((ji7) : Int).toNat) := ⟨_, rfl⟩
        replace H : (packthreadkeep_InetTurned.l0 k a1 a2 a3 y120 (wrap64 ((y120.length : Int) / 2)) ([] : List Int) 0) = some r := by first | (rw [hy120]; with_reducible exact H) | (have H2_ := (Option.bind_some _ _).symm.trans H; rw [hy120]; with_reducible exact H2_) | (have H2_ := (Option.bind_some _ _).symm.trans H; with_reducible exact H2_) | with_reducible exact H | (rw [hy120]; exact H) | exact H
        have Ny120 := Aside0.mk hy120
        clear hy120
        have H' := Aside0.mk H
        clear H
        go_enter Try.func3, Try.ntmps3
        go_wp2_with (first | ((with_reducible refine gate_callee (f := 15) rfl ?_); refine goesL_ (some 21) rfl rfl Try.func15 (by kernel_rfl) rfl #[.slice A0 l0.length c0, .int .i64 400] rfl (by (try simp only [List.map_toArray, List.map_cons, List.map_nil]); first | done | rfl | (simp only [List.length_drop, List.length_take]; rfl)) ?_; (with_reducible refine (packthreadkeep_Octets.calls _ _ l0 400 t111 _ ?side1 ?side2 A5.out).mono ?_); (case side1 => repeat (first | exact HR0.out | (with_reducible refine Kd.C_alloc ?_ _) | (with_reducible refine Kd.C_drewN ?_ _) | (with_reducible refine Kd.C_drew ?_))); (case side2 => exact HC0.out); rintro e w10 ⟨v112, rfl, ho0, hb⟩; refine ⟨_, rfl, ?_⟩; have n0_ := Aside0.mk (Kd.R_lower ho0 (below_size (by repeat (first | (with_reducible first | exact HB.out | apply below_alloc | apply pw_below_drewN | apply below_drew1) | exact HB.out)))); have n1_ := Aside0.mk (below_step (by repeat (first | (with_reducible first | exact HB.out | apply below_alloc | apply pw_below_drewN | apply below_drew1) | exact HB.out)) hb); clear HB; have HO113 := n0_; have HB := n1_; clear n0_ n1_; (try clear hb); (try clear hb2); (try clear hk); (try clear hi); (try clear ho0)) | ((with_reducible refine gate_dst (N := 22) rfl ?_); refine Kd.R_lit (Kd.int .u8) _ 5 ?hg (N := 22) ?hd (xs := ([3, 4] : List Int)) (inner := [.int .u8 3, .int .u8 4]) (ok := fun _ => True) (okp := fun _ => True) ?hr ?hp (fun _ hk => hk) trivial (Below.refl _ _) (Nat.le_refl _) (by simp) ?_; (case hd => rfl); (case hg => rfl); (case hr => first | (go_simp; done) | (go_simp; rfl)); (case hp => exact (Reps.one (show Kd.M (Kd.int .u8) _ _ _ 3 [.int .u8 3] from rfl) (Reps.one (show Kd.M (Kd.int .u8) _ _ _ 4 [.int .u8 4] from rfl) (Reps.none _ _)))); intro v115 w11 ho12 hb hg_ hnew_; clear hg_ hnew_; (first | rw [← Ny114.out] at ho12 | (simp only [Int.reduceToNat] at ho12; rw [← Ny114.out] at ho12)); have n0_ := Aside0.mk (Kd.R_elder' (by (with_reducible repeat (first | apply Kd.R_alloc | apply Kd.R_drewN | apply Kd.R_drew)); exact HO113.out) (Kd.R_base ho12) hb); have n1_ := Aside0.mk (Kd.R_lower (Kd.R_new' ho12 (Kd.R_lt (by (with_reducible repeat (first | apply Kd.R_alloc | apply Kd.R_drewN | apply Kd.R_drew)); exact HO113.out))) (below_size (by repeat (first | (with_reducible first | exact HB.out | apply below_alloc | apply pw_below_drewN | apply below_drew1) | exact HB.out)))); have n2_ := Aside0.mk (below_step (by repeat (first | (with_reducible first | exact HB.out | apply below_alloc | apply pw_below_drewN | apply below_drew1) | exact HB.out)) hb); clear HO113; clear HB; have HO113 := n0_; have HO116 := n1_; have HB := n2_; clear n0_ n1_ n2_; clear hb ho12; obtain ⟨Ao14, co14, eo14⟩ := Kd.R_slice HO116.out; subst eo14) | ((with_reducible refine gate_builtin (b := .append) (xs := #[.tmp 21, .tmp 22]) rfl ?_); at_builtin; refine Kd.R_append_rows (Kd.int .u8) (w0 := w) w.heap.size rfl (.tmp 21) (.tmp 22) 22 5 (.int .u8 0) 1 rfl Try.underlying22 info5 rfl (by decide) (by omega) v112 t111 y114 _ _ _ (fun k_ => some k_ ≠ (.slice Ao14 y114.length co14 : Value).ownBlock) (fun _ => False) rfl rfl ?aO ?aR (fun _ _ h => h) (fun _ h => h.elim) ?aF ?aB ?aS ?aL ?_; (case aR => repeat (first | exact (Kd.R_reads' HO116.out).2.2 | (with_reducible refine Kd.C_alloc ?_ _) | (with_reducible refine Kd.C_drewN ?_ _) | (with_reducible refine Kd.C_drew ?_))); (case aB => exact (by repeat (first | (with_reducible first | exact HB.out | apply below_alloc | apply pw_below_drewN | apply below_drew1) | exact HB.out))); (case aF => exact (fun k_ hk => Kd.fresh' (Kd.R_lt (by (with_reducible repeat (first | apply Kd.R_alloc | apply Kd.R_drewN | apply Kd.R_drew)); exact HO116.out)) k_ hk)); (case aO => exact (by (with_reducible repeat (first | apply Kd.R_alloc | apply Kd.R_drewN | apply Kd.R_drew)); exact Kd.R_mono HO113.out (fun _ hk => hk.2))); (case aS => exact (below_size (by repeat (first | (with_reducible first | exact HB.out | apply below_alloc | apply pw_below_drewN | apply below_drew1) | exact HB.out)))); (case aL => have := LMc6.out; omega); intro v118 w13 ho hb hg hat; rw [← Ny117.out] at ho; have n0_ := Aside0.mk (Kd.R_after (ok := (fun _ => True)) (by (with_reducible repeat (first | apply Kd.R_alloc | apply Kd.R_drewN | apply Kd.R_drew)); exact HO116.out) hg hat); have n1_ := Aside0.mk (hb); have n2_ := Aside0.mk (ho); clear HO116; clear HB; clear HO113; have HO116 := n0_; have HB := n1_; have HO119 := n2_; clear n0_ n1_ n2_; clear ho hb hg hat; obtain ⟨Ao15, co15, eo15⟩ := Kd.R_slice HO119.out; subst eo15; have q16 : ((ji7) : Int) ≤ ((y117.length : Int) : Int) := of_decide_eq_true (by first | (with_reducible assumption) | assumption); obtain ⟨i016, hi016, _, hsz16, _⟩ := info_parts info5; have hcut16 := cut_to (P := Try.prog) 22 5 .i64 Try.underlying22 hi016 Ao15 y117.length co15 (ji7) (of_decide_eq_true (by first | (with_reducible assumption) | assumption)) q16 (Kd.R_reads' HO119.out).2.1; have hr16 := Kd.R_take (m := ((ji7) : Int).toNat) HO119.out (by omega); have hy16 : y120.length = ((ji7) : Int).toNat := (by rw [Ny120.out, List.length_take]; omega); rw [← Ny120.out] at hr16; rw [← hy16] at hr16 hcut16; clear hy16 hi016 hsz16 HO119; have HO122 := Aside0.mk hr16; clear hr16; replace q16 := eq_true q16))
        go_loopg [11, 12] k (fun kq v11 v12 w' => ∃ (x11_1 : List Int) (x12_1 : Int), v12 = .int .i64 x12_1 ∧ Aside0 (packthreadkeep_InetTurned.l0 kq a1 a2 a3 y120 (wrap64 ((y120.length : Int) / 2)) x11_1 x12_1 = some r) ∧ Aside0 (kq ≤ k) ∧ Aside0 (Kd.R (Kd.int .u8) 5 w' w.heap.size (fun k_ => some k_ ≠ (v11 : Value).ownBlock) (.slice Ao15 y120.length co15) y120) ∧ Aside0 (Kd.R (Kd.int .u8) 5 w' w.heap.size (fun k_ => some k_ ≠ ((.slice Ao15 y120.length co15) : Value).ownBlock) v11 x11_1) ∧ Aside0 (Below w.heap.size w w'))
        case atStart => exact ⟨(([] : List Int)), (0), (by first | rfl | (simp; done) | (simp [*]; done)), H', ⟨Nat.le_refl _⟩, ⟨by (with_reducible repeat (first | apply Kd.R_alloc | apply Kd.R_drewN | apply Kd.R_drew)); exact Kd.R_mono HO122.out (fun _ hk => (by simp [Value.ownBlock]))⟩, ⟨by first | exact Kd.R_nil _ _ _ _ _ | exact Kd.N_nil _ _ _ _ _ | exact Kd.V_nil _ _ _ _ _ | exact Kd.Q_nil _ _ _ _ _ | exact Kd.S_nil _ _ _ _ _⟩, ⟨by repeat (first | (with_reducible first | exact HB.out | apply below_alloc | apply pw_below_drewN | apply below_drew1) | exact HB.out)⟩⟩
        case round =>
          clear H'
          try clear c1
          try clear q1
          try clear p2
          try clear c3
          try clear c6
          try clear p6
          try clear c8
          try clear c8b0
          try clear c8b1
          try clear c9
          try clear c9b0
          try clear c9b1
          try clear c15
          try clear q16
          try clear q16
          obtain ⟨x11_1, x12_1, rfl, HA, HK1, HO_9, HO_11, HB⟩ := hrel
          cases gk with
          | zero => exact absurd HA.out (by simp [packthreadkeep_InetTurned.l0])
          | succ k1 =>
            have H := HA.out
            clear HA
            simp only [packthreadkeep_InetTurned.l0] at H
            by_cases c17 : x12_1 < (wrap64 ((y120.length : Int) / 2))
            · rw [if_pos c17] at H
              have c17b0 : decide (x12_1 < (wrap64 ((y120.length : Int) / 2))) = true := decide_eq_true c17
              clear c17
              replace H := Option.bind_eq_some_iff.mp H
              obtain ⟨t123, A180, H⟩ := H
              replace H : (if (wrap64 ((y120.length : Int) / 2)) = 0 then (none) else (if 0 ≤ (wrap64 (2 * (Int.tmod (wrap64 (x12_1 + t123)) (wrap64 ((y120.length : Int) / 2))))) then (if (wrap64 (2 * (Int.tmod (wrap64 (x12_1 + t123)) (wrap64 ((y120.length : Int) / 2))))) < (y120.length : Int) then (if 0 ≤ (wrap64 ((wrap64 (2 * (Int.tmod (wrap64 (x12_1 + t123)) (wrap64 ((y120.length : Int) / 2))))) + 1)) then (if (wrap64 ((wrap64 (2 * (Int.tmod (wrap64 (x12_1 + t123)) (wrap64 ((y120.length : Int) / 2))))) + 1)) < (y120.length : Int) then ((some (([rd y120 (wrap64 (2 * (Int.tmod (wrap64 (x12_1 + t123)) (wrap64 ((y120.length : Int) / 2))))), rd y120 (wrap64 ((wrap64 (2 * (Int.tmod (wrap64 (x12_1 + t123)) (wrap64 ((y120.length : Int) / 2))))) + 1))] : List Int) : List Int)).bind fun y126 => (if ([] : List Int).length + y126.length < 140737488355328 then ((some (([] : List Int) ++ y126 : List Int)).bind fun y129 => (if y129.length + x11_1.length < 140737488355328 then (packthreadkeep_InetTurned.l0 k1 a1 a2 a3 y120 (wrap64 ((y120.length : Int) / 2)) (y129 ++ x11_1) (wrap64 (x12_1 + 1))) else (none))) else (none))) else (none)) else (none)) else (none)) else (none))) = some r := H
              have A18 := Aside0.mk A180
              clear A180
              by_cases c19 : (wrap64 ((y120.length : Int) / 2)) = 0
              · rw [if_pos c19] at H
                exact absurd H (by simp)
              · rw [if_neg c19] at H
                have c19b0 : ((wrap64 ((y120.length : Int) / 2)) == 0) = false := beq_eq_false_iff_ne.mpr c19
                have c19b1 : ((wrap64 ((y120.length : Int) / 2)) != 0) = true := bne_iff_ne.mpr c19
                obtain ⟨ji20, hji20⟩ : ∃ j_ : Int, (wrap64 (2 * (Int.tmod (wrap64 (x12_1 + t123)) (wrap64 ((y120.length : Int) / 2))))) = j_ := ⟨_, rfl⟩
                replace H : (if 0 ≤ (ji20) then (if (ji20) < (y120.length : Int) then (if 0 ≤ (wrap64 ((ji20) + 1)) then (if (wrap64 ((ji20) + 1)) < (y120.length : Int) then ((some (([rd y120 (ji20), rd y120 (wrap64 ((ji20) + 1))] : List Int) : List Int)).bind fun y126 => (if ([] : List Int).length + y126.length < 140737488355328 then ((some (([] : List Int) ++ y126 : List Int)).bind fun y129 => (if y129.length + x11_1.length < 140737488355328 then (packthreadkeep_InetTurned.l0 k1 a1 a2 a3 y120 (wrap64 ((y120.length : Int) / 2)) (y129 ++ x11_1) (wrap64 (x12_1 + 1))) else (none))) else (none))) else (none)) else (none)) else (none)) else (none)) = some r := by first | (rw [hji20] at H; exact H) | (simp only [hji20] at H ⊢; exact H)
                (try rw [hji20] at A18)
                have hji20w : (IntKind.i64.wrap (2 * (Int.tmod (wrap64 (x12_1 + t123)) (wrap64 ((y120.length : Int) / 2))))) = ji20 := (i64_w _).trans hji20
                by_cases c21 : 0 ≤ (ji20)
                · rw [if_pos c21] at H
                  have c21b0 : decide (0 ≤ (ji20)) = true := decide_eq_true c21
                  clear c21
                  by_cases c22 : (ji20) < (y120.length : Int)
                  · rw [if_pos c22] at H
                    have c22b0 : decide ((ji20) < (y120.length : Int)) = true := decide_eq_true c22
                    clear c22
                    obtain ⟨ji23, hji23⟩ : ∃ j_ : Int, (wrap64 ((ji20) + 1)) = j_ := ⟨_, rfl⟩
                    replace H : (if 0 ≤ (ji23) then (if (ji23) < (y120.length : Int) then ((some (([rd y120 (ji20), rd y120 (ji23)] : List Int) : List Int)).bind fun y126 => (if ([] : List Int).length + y126.length < 140737488355328 then ((some (([] : List Int) ++ y126 : List Int)).bind fun y129 => (if y129.length + x11_1.length < 140737488355328 then (packthreadkeep_InetTurned.l0 k1 a1 a2 a3 y120 (wrap64 ((y120.length : Int) / 2)) (y129 ++ x11_1) (wrap64 (x12_1 + 1))) else (none))) else (none))) else (none)) else (none)) = some r := by first | (rw [hji23] at H; exact H) | (simp only [hji23] at H ⊢; exact H)
                    (try rw [hji23] at A18)
                    have hji23w : (IntKind.i64.wrap ((ji20) + 1)) = ji23 := (i64_w _).trans hji23
                    by_cases c24 : 0 ≤ (ji23)
                    · rw [if_pos c24] at H
                      have c24b0 : decide (0 ≤ (ji23)) = true := decide_eq_true c24
                      clear c24
                      by_cases c25 : (ji23) < (y120.length : Int)
                      · rw [if_pos c25] at H
                        have c25b0 : decide ((ji23) < (y120.length : Int)) = true := decide_eq_true c25
                        clear c25
                        obtain ⟨y126, hy126⟩ : ∃ y_ : List Int, y_ = (([rd y120 (ji20), rd y120 (ji23)] : List Int)) := ⟨_, rfl⟩
                        replace H : (if ([] : List Int).length + y126.length < 140737488355328 then ((some (([] : List Int) ++ y126 : List Int)).bind fun y129 => (if y129.length + x11_1.length < 140737488355328 then (packthreadkeep_InetTurned.l0 k1 a1 a2 a3 y120 (wrap64 ((y120.length : Int) / 2)) (y129 ++ x11_1) (wrap64 (x12_1 + 1))) else (none))) else (none)) = some r := by first | (rw [hy126]; with_reducible exact H) | (have H2_ := (Option.bind_some _ _).symm.trans H; rw [hy126]; with_reducible exact H2_) | (have H2_ := (Option.bind_some _ _).symm.trans H; with_reducible exact H2_) | with_reducible exact H | (rw [hy126]; exact H) | exact H
                        have Ny126 := Aside0.mk hy126
                        clear hy126
                        by_cases c26 : ([] : List Int).length + y126.length < 140737488355328
                        · rw [if_pos c26] at H
                          have LMc26 := Aside0.mk c26
                          clear c26
                          obtain ⟨y129, hy129⟩ : ∃ y_ : List Int, y_ = (([] : List Int) ++ y126) := ⟨_, rfl⟩
                          replace H : (if y129.length + x11_1.length < 140737488355328 then (packthreadkeep_InetTurned.l0 k1 a1 a2 a3 y120 (wrap64 ((y120.length : Int) / 2)) (y129 ++ x11_1) (wrap64 (x12_1 + 1))) else (none)) = some r := by first | (rw [hy129]; with_reducible exact H) | (have H2_ := (Option.bind_some _ _).symm.trans H; rw [hy129]; with_reducible exact H2_) | (have H2_ := (Option.bind_some _ _).symm.trans H; with_reducible exact H2_) | with_reducible exact H | (rw [hy129]; exact H) | exact H
                          have Ny129 := Aside0.mk hy129
                          clear hy129
                          by_cases c27 : y129.length + x11_1.length < 140737488355328
                          · rw [if_pos c27] at H
                            have LMc27 := Aside0.mk c27
                            clear c27
                            obtain ⟨y132, hy132⟩ : ∃ y_ : List Int, y_ = (y129 ++ x11_1) := ⟨_, rfl⟩
                            replace H : (packthreadkeep_InetTurned.l0 k1 a1 a2 a3 y120 (wrap64 ((y120.length : Int) / 2)) y132 (wrap64 (x12_1 + 1))) = some r := by first | (rw [hy132]; with_reducible exact H) | (have H2_ := (Option.bind_some _ _).symm.trans H; rw [hy132]; with_reducible exact H2_) | (have H2_ := (Option.bind_some _ _).symm.trans H; with_reducible exact H2_) | with_reducible exact H | (rw [hy132]; exact H) | exact H
                            have Ny132 := Aside0.mk hy132
                            clear hy132
                            have H' := Aside0.mk H
                            clear H
                            try go_wp2_with (first | ((with_reducible refine gate_callee (f := 16) rfl ?_); refine goesL_ (some 43) rfl rfl Try.func16 (by kernel_rfl) rfl #[.int .i64 a1, .int .i64 (wrap64 ((y120.length : Int) / 2))] rfl (by (try simp only [List.map_toArray, List.map_cons, List.map_nil]); first | done | rfl | (simp only [List.length_drop, List.length_take]; rfl)) ?_; (with_reducible refine (packthreadkeep_Picked.calls a1 (wrap64 ((y120.length : Int) / 2)) t123 _ A18.out).mono ?_); rintro e w' ⟨rfl, ⟨nd, rfl⟩⟩; refine ⟨_, rfl, ?_⟩))
                            (try (rw [drewN_self wr]; generalize hq_ : World.drewN wr _ = wr; have n0_ : Aside0 (Kd.R (Kd.int .u8) 5 wr w.heap.size (fun k_ => some k_ ≠ (.slice Ao15 y120.length co15 : Value).ownBlock) u11 x11_1) := ⟨by rw [← hq_]; exact (by (with_reducible repeat (first | apply Kd.R_alloc | apply Kd.R_drewN | apply Kd.R_drew)); exact HO_11.out)⟩; have n1_ : Aside0 (Kd.R (Kd.int .u8) 5 wr w.heap.size (fun k_ => some k_ ≠ (u11 : Value).ownBlock) (.slice Ao15 y120.length co15) y120) := ⟨by rw [← hq_]; exact (by (with_reducible repeat (first | apply Kd.R_alloc | apply Kd.R_drewN | apply Kd.R_drew)); exact HO_9.out)⟩; have n2_ : Aside0 (Below w.heap.size w wr) := ⟨by rw [← hq_]; exact (by repeat (first | (with_reducible first | exact HB.out | apply below_alloc | apply pw_below_drewN | apply below_drew1) | exact HB.out))⟩; clear HO_11 HO_9 HB hq_; have HO_11 := n0_; have HO_9 := n1_; have HB := n2_; clear n0_ n1_ n2_))
                            have n0_ := Aside0.mk (Kd.R_drew HO_9.out)
                            have n1_ := Aside0.mk (Kd.R_drew HO_11.out)
                            have n2_ := Aside0.mk (below_drew1 HB.out)
                            clear HO_9
                            clear HO_11
                            clear HB
                            have HO_9 := n0_
                            have HO_11 := n1_
                            have HB := n2_
                            clear n0_ n1_ n2_
                            have p124 : 0 ≤ ((ji20) : Int) := of_decide_eq_true (by first | (with_reducible assumption) | assumption)
                            have q124 : (ji20) < (y120.length : Int) := of_decide_eq_true (by first | (with_reducible assumption) | assumption)
                            obtain ⟨ad124, e124, hx124_0⟩ := Kd.at_int (Kd.R_reads' HO_9.out).2.2 (ji20) p124 q124
                            cases e124
                            replace p124 := eq_true p124
                            replace q124 := eq_true q124
                            have p125 : 0 ≤ ((ji23) : Int) := of_decide_eq_true (by first | (with_reducible assumption) | assumption)
                            have q125 : (ji23) < (y120.length : Int) := of_decide_eq_true (by first | (with_reducible assumption) | assumption)
                            obtain ⟨ad125, e125, hx125_0⟩ := Kd.at_int (Kd.R_reads' HO_9.out).2.2 (ji23) p125 q125
                            obtain rfl : ad124 = ad125 := (by injection e125)
                            replace p125 := eq_true p125
                            replace q125 := eq_true q125
                            refine start_ (n := 16) (S := fun w' => w'.cell? (ad124.add ((ji20)).toNat) = some (.int .u8 (rd y120 (ji20))) ∧ w'.cell? (ad124.add ((ji23)).toNat) = some (.int .u8 (rd y120 (ji23)))) (ds := [12, 14]) #[false, false, false, false, false, false, false, false, false, false, false, false, false, false, false, false] (by kernel_rfl) rfl rfl ⟨hx124_0, hx125_0⟩ (fun hHeld => ?_); refine with_tabW packthreadkeep_InetTurned.tab9 packthreadkeep_InetTurned.bits9 (fun HT_ HW_ => ?_)
                            generalize wr.drew = w28 at HO_9 HO_11 HB hx124_0 hx125_0 hHeld ⊢
                            refine pure_ (i := 0) (N := some 47) (v := ?_) (a' := ?_) #[true, false, false, false, false, false, false, false, false, false, false, false, false, false, false, false] rfl rfl (any_of HT_.out (by kernel_rfl)) (fun _ _ _ h => h) (Or.inl ⟨by rfl, ?_⟩) ?_ ?_
                            rotate_left
                            · intro w'
                              go_simp
                              with_reducible rfl
                            rotate_left
                            · simp only [Act.put, List.setIfInBounds_toArray, List.set_cons_zero, List.set_cons_succ, i64_w, i32_w]
                              rfl
                            refine pure_ (i := 1) (N := some 48) (v := ?_) (a' := ?_) #[true, true, false, false, false, false, false, false, false, false, false, false, false, false, false, false] rfl rfl (any_of HT_.out (by kernel_rfl)) (fun _ _ _ h => h) (Or.inl ⟨by rfl, ?_⟩) ?_ ?_
                            rotate_left
                            · intro w'
                              go_simp
                              with_reducible rfl
                            rotate_left
                            · simp only [Act.put, List.setIfInBounds_toArray, List.set_cons_zero, List.set_cons_succ, i64_w, i32_w]
                              rfl
                            refine pure_ (i := 2) (N := some 49) (v := ?_) (a' := ?_) #[true, true, true, false, false, false, false, false, false, false, false, false, false, false, false, false] rfl rfl (any_of HT_.out (by kernel_rfl)) (fun _ _ _ h => h) (Or.inl ⟨by rfl, ?_⟩) ?_ ?_
                            rotate_left
                            · intro w'
                              go_simp
                              with_reducible rfl
                            rotate_left
                            · simp only [Act.put, List.setIfInBounds_toArray, List.set_cons_zero, List.set_cons_succ, i64_w, i32_w]
                              rfl
                            refine pure_ (i := 3) (N := some 50) (v := ?_) (a' := ?_) #[true, true, true, true, false, false, false, false, false, false, false, false, false, false, false, false] rfl rfl (any_of HT_.out (by kernel_rfl)) (fun _ _ _ h => h) (Or.inl ⟨by rfl, ?_⟩) ?_ ?_
                            rotate_left
                            · intro w'
                              go_simp
                              with_reducible rfl
                            rotate_left
                            · simp only [Act.put, List.setIfInBounds_toArray, List.set_cons_zero, List.set_cons_succ, i64_w, i32_w]
                              rfl
                            refine pure_ (i := 5) (N := some 52) (v := ?_) (a' := ?_) #[true, true, true, true, false, true, false, false, false, false, false, false, false, false, false, false] rfl rfl (any_of HT_.out (by kernel_rfl)) (fun _ _ _ h => h) (Or.inl ⟨by rfl, ?_⟩) ?_ ?_
                            rotate_left
                            · intro w'
                              go_simp
                              with_reducible rfl
                            rotate_left
                            · simp only [Act.put, List.setIfInBounds_toArray, List.set_cons_zero, List.set_cons_succ, i64_w, i32_w]
                              rfl
                            refine pure_ (i := 6) (N := some 53) (v := ?_) (a' := ?_) #[true, true, true, true, false, true, true, false, false, false, false, false, false, false, false, false] rfl rfl (any_of HT_.out (by kernel_rfl)) (fun _ _ _ h => h) (Or.inl ⟨by rfl, ?_⟩) ?_ ?_
                            rotate_left
                            · intro w'
                              go_simp
                              with_reducible rfl
                            rotate_left
                            · simp only [Act.put, List.setIfInBounds_toArray, List.set_cons_zero, List.set_cons_succ, i64_w, i32_w]
                              rfl
                            refine pure_ (i := 7) (N := some 54) (v := ?_) (a' := ?_) #[true, true, true, true, false, true, true, true, false, false, false, false, false, false, false, false] rfl rfl (any_of HT_.out (by kernel_rfl)) (fun _ _ _ h => h) (Or.inl ⟨by rfl, ?_⟩) ?_ ?_
                            rotate_left
                            · intro w'
                              go_simp
                              with_reducible rfl
                            rotate_left
                            · simp only [Act.put, List.setIfInBounds_toArray, List.set_cons_zero, List.set_cons_succ, i64_w, i32_w]
                              rfl
                            refine pure_ (i := 8) (N := some 55) (v := ?_) (a' := ?_) #[true, true, true, true, false, true, true, true, true, false, false, false, false, false, false, false] rfl rfl (any_of HT_.out (by kernel_rfl)) (fun _ _ _ h => h) (Or.inl ⟨by rfl, ?_⟩) ?_ ?_
                            rotate_left
                            · intro w'
                              go_simp
                              with_reducible rfl
                            rotate_left
                            · simp only [Act.put, List.setIfInBounds_toArray, List.set_cons_zero, List.set_cons_succ, i64_w, i32_w]
                              rfl
                            refine pure_ (i := 9) (N := some 56) (v := ?_) (a' := ?_) #[true, true, true, true, false, true, true, true, true, true, false, false, false, false, false, false] rfl rfl (any_of HT_.out (by kernel_rfl)) (fun _ _ _ h => h) (Or.inl ⟨by rfl, ?_⟩) ?_ ?_
                            rotate_left
                            · intro w'
                              go_simp
                              with_reducible rfl
                            rotate_left
                            · simp only [Act.put, List.setIfInBounds_toArray, List.set_cons_zero, List.set_cons_succ, i64_w, i32_w]
                              rfl
                            refine pure_ (i := 13) (N := some 60) (v := ?_) (a' := ?_) #[true, true, true, true, false, true, true, true, true, true, false, false, false, true, false, false] rfl rfl (any_of HT_.out (by kernel_rfl)) (fun _ _ _ h => h) (Or.inl ⟨by rfl, ?_⟩) ?_ ?_
                            rotate_left
                            · intro w'
                              go_simp
                              with_reducible rfl
                            rotate_left
                            · simp only [Act.put, List.setIfInBounds_toArray, List.set_cons_zero, List.set_cons_succ, i64_w, i32_w]
                              rfl
                            refine take_ (i := 4) (N := some 51) (v := ?_) (a' := ?_) #[true, true, true, true, true, true, true, true, true, true, false, false, false, true, false, false] rfl rfl (take_ofW HT_.out HW_.out (by kernel_rfl)) (fun _ _ _ h => h) (Or.inl ⟨by rfl, ?_⟩) hHeld ?_ ?_
                            rotate_left
                            · rintro w' ⟨s0, s1⟩
                              go_simp
                              with_reducible rfl
                            rotate_left
                            · simp only [Act.put, List.setIfInBounds_toArray, List.set_cons_zero, List.set_cons_succ, i64_w, i32_w]
                              rfl
                            refine take_ (i := 10) (N := some 57) (v := ?_) (a' := ?_) #[true, true, true, true, true, true, true, true, true, true, true, false, false, true, false, false] rfl rfl (take_ofW HT_.out HW_.out (by kernel_rfl)) (fun _ _ _ h => h) (Or.inl ⟨by rfl, ?_⟩) hHeld ?_ ?_
                            rotate_left
                            · rintro w' ⟨s0, s1⟩
                              go_simp
                              with_reducible rfl
                            rotate_left
                            · simp only [Act.put, List.setIfInBounds_toArray, List.set_cons_zero, List.set_cons_succ, i64_w, i32_w]
                              rfl
                            refine one_ (i := 11) (N := some 58) #[true, true, true, true, true, true, true, true, true, true, true, true, false, true, false, false] rfl rfl (one_of HT_.out (by kernel_rfl)) (by decide) (fun K hK => ?_)
                            refine Kd.R_lit_step (Kd.int .u8) _ 5 ?hg (N := 58) ?hd (xs := ([rd y120 (ji20), rd y120 (ji23)] : List Int)) (inner := [.int .u8 (rd y120 (ji20)), .int .u8 (rd y120 (ji23))]) (ok := fun _ => True) (okp := fun _ => True) ?hr ?hp (fun _ hk => hk) trivial (Below.refl _ _) (Nat.le_refl _) (by simp) ?_; (case hd => rfl); (case hg => rfl); (case hr => first | (go_simp; done) | (go_simp; rfl)); (case hp => exact (Reps.one (show Kd.M (Kd.int .u8) _ _ _ (rd y120 (ji20)) [.int .u8 (rd y120 (ji20))] from rfl) (Reps.one (show Kd.M (Kd.int .u8) _ _ _ (rd y120 (ji23)) [.int .u8 (rd y120 (ji23))] from rfl) (Reps.none _ _))))
                            intro v127 w29 ho30 hb hg_ hnew_
                            have HS0_ := (hb.cell (World.block_lt_of_cell? _ _ (hHeld.1))).trans (hHeld.1)
                            have HS1_ := (hb.cell (World.block_lt_of_cell? _ _ (hHeld.2))).trans (hHeld.2)
                            clear hg_ hnew_
                            (first | rw [← Ny126.out] at ho30 | (simp only [Int.reduceToNat] at ho30; rw [← Ny126.out] at ho30))
                            have n0_ := Aside0.mk (Kd.R_elder' (by (with_reducible repeat (first | apply Kd.R_alloc | apply Kd.R_drewN | apply Kd.R_drew)); exact HO_9.out) (Kd.R_base ho30) hb)
                            have n1_ := Aside0.mk (Kd.R_elder' (by (with_reducible repeat (first | apply Kd.R_alloc | apply Kd.R_drewN | apply Kd.R_drew)); exact HO_11.out) (Kd.R_base ho30) hb)
                            have n2_ := Aside0.mk (Kd.R_lower (Kd.R_new' (Kd.R_new' ho30 (Kd.R_lt (by (with_reducible repeat (first | apply Kd.R_alloc | apply Kd.R_drewN | apply Kd.R_drew)); exact HO_9.out))) (Kd.R_lt (by (with_reducible repeat (first | apply Kd.R_alloc | apply Kd.R_drewN | apply Kd.R_drew)); exact HO_11.out))) (below_size (by repeat (first | (with_reducible first | exact HB.out | apply below_alloc | apply pw_below_drewN | apply below_drew1) | exact HB.out))))
                            have n3_ := Aside0.mk (below_step (by repeat (first | (with_reducible first | exact HB.out | apply below_alloc | apply pw_below_drewN | apply below_drew1) | exact HB.out)) hb)
                            clear HO_9
                            clear HO_11
                            clear HB
                            have HO_9 := n0_
                            have HO_11 := n1_
                            have HO128 := n2_
                            have HB := n3_
                            clear n0_ n1_ n2_ n3_
                            clear hb ho30
                            obtain ⟨Ao32, co32, eo32⟩ := Kd.R_slice HO128.out
                            (first | subst eo32 | (injection eo32 with f1_ f2_ f3_; have f4_ := f1_.symm; have f5_ := f3_.symm; clear f1_ f2_ f3_; subst f4_; subst f5_))
                            refine hK.out _ _ ⟨HS0_, HS1_⟩ (fun hHeld => ?_)
                            clear hK K
                            refine norm_ (a' := ?_) ?_ ?_
                            rotate_left
                            · show Act.put _ (some 58) _ = _
                              simp only [Act.put, List.setIfInBounds_toArray, List.set_cons_zero, List.set_cons_succ, i64_w, i32_w]
                              rfl
                            refine last_ (i := 12) (N := some 59) #[true, true, true, true, true, true, true, true, true, true, true, true, true, true, false, false] rfl rfl (one_of HT_.out (by kernel_rfl)) (by decide) (fun K hK => ?_)
                            refine Kd.R_append_rows_step (Kd.int .u8) (w0 := w) w.heap.size (by rfl) (.const (.slice none 0 0)) (.tmp 58) 22 5 (.int .u8 0) 1 rfl Try.underlying22 info5 rfl (by decide) (by omega) (.slice none 0 0) ([] : List Int) y126 _ _ _ (fun k_ => some k_ ≠ (.slice (some ad124) y120.length co15 : Value).ownBlock ∧ some k_ ≠ (u11 : Value).ownBlock ∧ some k_ ≠ (.slice Ao32 y126.length co32 : Value).ownBlock) (fun _ => False) rfl rfl ?aO ?aR (fun _ _ h => h) (fun _ h => h.elim) ?aF ?aB ?aS ?aL ?_
                            (case aR => repeat (first | exact (Kd.R_reads' HO128.out).2.2 | (with_reducible refine Kd.C_alloc ?_ _) | (with_reducible refine Kd.C_drewN ?_ _) | (with_reducible refine Kd.C_drew ?_)))
                            (case aB => exact (by repeat (first | (with_reducible first | exact HB.out | apply below_alloc | apply pw_below_drewN | apply below_drew1) | exact HB.out)))
                            (case aF => exact (fun k_ hk => ⟨Kd.fresh' (Kd.R_lt (by (with_reducible repeat (first | apply Kd.R_alloc | apply Kd.R_drewN | apply Kd.R_drew)); exact HO_9.out)) k_ hk, Kd.fresh' (Kd.R_lt (by (with_reducible repeat (first | apply Kd.R_alloc | apply Kd.R_drewN | apply Kd.R_drew)); exact HO_11.out)) k_ hk, Kd.fresh' (Kd.R_lt (by (with_reducible repeat (first | apply Kd.R_alloc | apply Kd.R_drewN | apply Kd.R_drew)); exact HO128.out)) k_ hk⟩))
                            (case aO => exact ((Kd.R_nil _ _ _ _ (fun k_ => some k_ ≠ (.slice (some ad124) y120.length co15 : Value).ownBlock ∧ some k_ ≠ (u11 : Value).ownBlock ∧ some k_ ≠ (.slice Ao32 y126.length co32 : Value).ownBlock))))
                            (case aS => exact (below_size (by repeat (first | (with_reducible first | exact HB.out | apply below_alloc | apply pw_below_drewN | apply below_drew1) | exact HB.out))))
                            (case aL => have := LMc26.out; omega)
                            intro v130 w31 ho hb hg hat
                            rw [← Ny129.out] at ho
                            have n0_ := Aside0.mk (Kd.R_after (Kd.R_apart_nil (by (with_reducible repeat (first | apply Kd.R_alloc | apply Kd.R_drewN | apply Kd.R_drew)); exact HO_9.out)) hg hat)
                            have n1_ := Aside0.mk (Kd.R_after (Kd.R_apart_nil (by (with_reducible repeat (first | apply Kd.R_alloc | apply Kd.R_drewN | apply Kd.R_drew)); exact HO_11.out)) hg hat)
                            have n2_ := Aside0.mk (Kd.R_after (Kd.R_apart_nil (by (with_reducible repeat (first | apply Kd.R_alloc | apply Kd.R_drewN | apply Kd.R_drew)); exact HO128.out)) hg hat)
                            have n3_ := Aside0.mk (hb)
                            have n4_ := Aside0.mk (ho)
                            clear HO_9
                            clear HO_11
                            clear HO128
                            clear HB
                            have HO_9 := n0_
                            have HO_11 := n1_
                            have HO128 := n2_
                            have HB := n3_
                            have HO131 := n4_
                            clear n0_ n1_ n2_ n3_ n4_
                            clear ho hb hg hat
                            obtain ⟨Ao34, co34, eo34⟩ := Kd.R_slice HO_11.out
                            (first | subst eo34 | (injection eo34 with f1_ f2_ f3_; have f4_ := f1_.symm; have f5_ := f3_.symm; clear f1_ f2_ f3_; subst f4_; subst f5_))
                            refine hK.out _ _ ?_
                            clear hK K
                            refine norm_ (a' := ?_) ?_ ?_
                            rotate_left
                            · show Act.put _ (some 59) _ = _
                              simp only [Act.put, List.setIfInBounds_toArray, List.set_cons_zero, List.set_cons_succ, i64_w, i32_w]
                              rfl
                            refine last_ (i := 14) (N := some 61) #[true, true, true, true, true, true, true, true, true, true, true, true, true, true, true, false] rfl rfl (one_of HT_.out (by kernel_rfl)) (by decide) (fun K hK => ?_)
                            refine Kd.R_append_rows_step (Kd.int .u8) (w0 := w) w.heap.size (by rfl) (.tmp 59) (.tmp 60) 22 5 (.int .u8 0) 1 rfl Try.underlying22 info5 rfl (by decide) (by omega) v130 y129 x11_1 _ _ _ (fun k_ => some k_ ≠ (.slice (some ad124) y120.length co15 : Value).ownBlock ∧ some k_ ≠ (.slice Ao34 x11_1.length co34 : Value).ownBlock ∧ some k_ ≠ (.slice Ao32 y126.length co32 : Value).ownBlock) (fun _ => False) rfl rfl ?aO ?aR (fun _ _ h => h) (fun _ h => h.elim) ?aF ?aB ?aS ?aL ?_
                            (case aR => repeat (first | exact (Kd.R_reads' HO_11.out).2.2 | (with_reducible refine Kd.C_alloc ?_ _) | (with_reducible refine Kd.C_drewN ?_ _) | (with_reducible refine Kd.C_drew ?_)))
                            (case aB => exact (by repeat (first | (with_reducible first | exact HB.out | apply below_alloc | apply pw_below_drewN | apply below_drew1) | exact HB.out)))
                            (case aF => exact (fun k_ hk => ⟨Kd.fresh' (Kd.R_lt (by (with_reducible repeat (first | apply Kd.R_alloc | apply Kd.R_drewN | apply Kd.R_drew)); exact HO_9.out)) k_ hk, Kd.fresh' (Kd.R_lt (by (with_reducible repeat (first | apply Kd.R_alloc | apply Kd.R_drewN | apply Kd.R_drew)); exact HO_11.out)) k_ hk, Kd.fresh' (Kd.R_lt (by (with_reducible repeat (first | apply Kd.R_alloc | apply Kd.R_drewN | apply Kd.R_drew)); exact HO128.out)) k_ hk⟩))
                            (case aO => exact (by (with_reducible repeat (first | apply Kd.R_alloc | apply Kd.R_drewN | apply Kd.R_drew)); exact HO131.out))
                            (case aS => exact (below_size (by repeat (first | (with_reducible first | exact HB.out | apply below_alloc | apply pw_below_drewN | apply below_drew1) | exact HB.out))))
                            (case aL => have := LMc27.out; omega)
                            intro v133 w33 ho hb hg hat
                            rw [← Ny132.out] at ho
                            have n0_ := Aside0.mk (Kd.R_after (ok := (fun k_ => some k_ ≠ (.slice Ao34 x11_1.length co34 : Value).ownBlock ∧ some k_ ≠ (.slice Ao32 y126.length co32 : Value).ownBlock)) (by (with_reducible repeat (first | apply Kd.R_alloc | apply Kd.R_drewN | apply Kd.R_drew)); exact HO_9.out) hg hat)
                            have n1_ := Aside0.mk (Kd.R_after (ok := (fun k_ => some k_ ≠ (.slice (some ad124) y120.length co15 : Value).ownBlock ∧ some k_ ≠ (.slice Ao32 y126.length co32 : Value).ownBlock)) (by (with_reducible repeat (first | apply Kd.R_alloc | apply Kd.R_drewN | apply Kd.R_drew)); exact HO_11.out) hg hat)
                            have n2_ := Aside0.mk (Kd.R_after (ok := (fun k_ => some k_ ≠ (.slice (some ad124) y120.length co15 : Value).ownBlock ∧ some k_ ≠ (.slice Ao34 x11_1.length co34 : Value).ownBlock)) (by (with_reducible repeat (first | apply Kd.R_alloc | apply Kd.R_drewN | apply Kd.R_drew)); exact Kd.R_mono HO128.out (fun _ hk => ⟨⟨hk.1.1.2, hk.1.2⟩, hk.2⟩)) hg hat)
                            have n3_ := Aside0.mk (hb)
                            have n4_ := Aside0.mk (ho)
                            clear HO_9
                            clear HO_11
                            clear HO128
                            clear HB
                            clear HO131
                            have HO_9 := n0_
                            have HO_11 := n1_
                            have HO128 := n2_
                            have HB := n3_
                            have HO134 := n4_
                            clear n0_ n1_ n2_ n3_ n4_
                            clear ho hb hg hat
                            refine hK.out _ _ ?_
                            clear hK K
                            refine norm_ (a' := ?_) ?_ ?_
                            rotate_left
                            · show Act.put _ (some 61) _ = _
                              simp only [Act.put, List.setIfInBounds_toArray, List.set_cons_zero, List.set_cons_succ, i64_w, i32_w]
                              rfl
                            refine pure_ (i := 15) (N := some 11) (v := ?_) (a' := ?_) #[true, true, true, true, true, true, true, true, true, true, true, true, true, true, true, true] rfl rfl (any_of HT_.out (by kernel_rfl)) (fun _ _ _ h => h) (Or.inl ⟨by rfl, ?_⟩) ?_ ?_
                            rotate_left
                            · intro w'
                              go_simp
                              with_reducible rfl
                            rotate_left
                            · simp only [Act.put, List.setIfInBounds_toArray, List.set_cons_zero, List.set_cons_succ, i64_w, i32_w]
                              rfl
                            refine done_ (done_of HT_.out (by kernel_rfl)) ?_
                            try go_wp2
                            go_roundg k1
                            case measure => have := HK1.out; omega
                            case rel => exact ⟨(y132), (wrap64 (x12_1 + 1)), (by first | rfl | (simp; done) | (simp [*]; done)), H', ⟨by have := HK1.out; omega⟩, ⟨by (with_reducible repeat (first | apply Kd.R_alloc | apply Kd.R_drewN | apply Kd.R_drew)); exact Kd.R_mono HO_9.out (fun _ hk => hk.2)⟩, ⟨by (with_reducible repeat (first | apply Kd.R_alloc | apply Kd.R_drewN | apply Kd.R_drew)); exact Kd.R_mono HO134.out (fun _ hk => hk.1)⟩, ⟨by repeat (first | (with_reducible first | exact HB.out | apply below_alloc | apply pw_below_drewN | apply below_drew1) | exact HB.out)⟩⟩
                          · rw [if_neg c27] at H
                            exact absurd H (by simp)
                        · rw [if_neg c26] at H
                          exact absurd H (by simp)
                      · rw [if_neg c25] at H
                        exact absurd H (by simp)
                    · rw [if_neg c24] at H
                      exact absurd H (by simp)
                  · rw [if_neg c22] at H
                    exact absurd H (by simp)
                · rw [if_neg c21] at H
                  exact absurd H (by simp)
            · rw [if_neg c17] at H
              have c17b0 : decide (x12_1 < (wrap64 ((y120.length : Int) / 2))) = false := decide_eq_false c17
              clear c17
              replace H := Option.bind_eq_some_iff.mp H
              obtain ⟨t135, A350, H⟩ := H
              replace H : ((packthreadkeep_Picked.f a3 65536).bind fun t136 => (if ([] : List Int).length + y120.length < 140737488355328 then ((some (([] : List Int) ++ y120 : List Int)).bind fun y137 => (if 0 ≤ (wrap64 (t135 * 2)) then (if (wrap64 (t135 * 2)) < (y137.length : Int) then (if 0 ≤ (wrap64 ((wrap64 (t135 * 2)) + 1)) then (if (wrap64 ((wrap64 (t135 * 2)) + 1)) < (y137.length : Int) then ((some ((y137.set ((wrap64 (t135 * 2)) : Int).toNat ((t136 / 256) % 256)).set ((wrap64 ((wrap64 (t135 * 2)) + 1)) : Int).toNat ((t136) % 256) : List Int)).bind fun y141 => (if (wrap64 (t135 * 2)) < (y120.length : Int) then (if (wrap64 ((wrap64 (t135 * 2)) + 1)) < (y120.length : Int) then (if (Go.bits .or .i64 (wrap64 ((wrap64 (rd y120 (wrap64 (t135 * 2)))) * 256)) (wrap64 (rd y120 (wrap64 ((wrap64 (t135 * 2)) + 1))))) = t136 then (packthreadkeep_InetTurned.j1 k1 y120 x11_1 y141 true) else (if (wrap64 ((Go.bits .or .i64 (wrap64 ((wrap64 (rd y120 (wrap64 (t135 * 2)))) * 256)) (wrap64 (rd y120 (wrap64 ((wrap64 (t135 * 2)) + 1))))) + t136)) = 65535 then (if (Go.bits .or .i64 (wrap64 ((wrap64 (rd y120 (wrap64 (t135 * 2)))) * 256)) (wrap64 (rd y120 (wrap64 ((wrap64 (t135 * 2)) + 1))))) = 0 then (packthreadkeep_InetTurned.j1 k1 y120 x11_1 y141 true) else (packthreadkeep_InetTurned.j1 k1 y120 x11_1 y141 (t136 == 0))) else (packthreadkeep_InetTurned.j1 k1 y120 x11_1 y141 false))) else (none)) else (none))) else (none)) else (none)) else (none)) else (none))) else (none))) = some r := H
              have A35 := Aside0.mk A350
              clear A350
              replace H := Option.bind_eq_some_iff.mp H
              obtain ⟨t136, A360, H⟩ := H
              replace H : (if ([] : List Int).length + y120.length < 140737488355328 then ((some (([] : List Int) ++ y120 : List Int)).bind fun y137 => (if 0 ≤ (wrap64 (t135 * 2)) then (if (wrap64 (t135 * 2)) < (y137.length : Int) then (if 0 ≤ (wrap64 ((wrap64 (t135 * 2)) + 1)) then (if (wrap64 ((wrap64 (t135 * 2)) + 1)) < (y137.length : Int) then ((some ((y137.set ((wrap64 (t135 * 2)) : Int).toNat ((t136 / 256) % 256)).set ((wrap64 ((wrap64 (t135 * 2)) + 1)) : Int).toNat ((t136) % 256) : List Int)).bind fun y141 => (if (wrap64 (t135 * 2)) < (y120.length : Int) then (if (wrap64 ((wrap64 (t135 * 2)) + 1)) < (y120.length : Int) then (if (Go.bits .or .i64 (wrap64 ((wrap64 (rd y120 (wrap64 (t135 * 2)))) * 256)) (wrap64 (rd y120 (wrap64 ((wrap64 (t135 * 2)) + 1))))) = t136 then (packthreadkeep_InetTurned.j1 k1 y120 x11_1 y141 true) else (if (wrap64 ((Go.bits .or .i64 (wrap64 ((wrap64 (rd y120 (wrap64 (t135 * 2)))) * 256)) (wrap64 (rd y120 (wrap64 ((wrap64 (t135 * 2)) + 1))))) + t136)) = 65535 then (if (Go.bits .or .i64 (wrap64 ((wrap64 (rd y120 (wrap64 (t135 * 2)))) * 256)) (wrap64 (rd y120 (wrap64 ((wrap64 (t135 * 2)) + 1))))) = 0 then (packthreadkeep_InetTurned.j1 k1 y120 x11_1 y141 true) else (packthreadkeep_InetTurned.j1 k1 y120 x11_1 y141 (t136 == 0))) else (packthreadkeep_InetTurned.j1 k1 y120 x11_1 y141 false))) else (none)) else (none))) else (none)) else (none)) else (none)) else (none))) else (none)) = some r := H
              have A36 := Aside0.mk A360
              clear A360
              by_cases c37 : ([] : List Int).length + y120.length < 140737488355328
              · rw [if_pos c37] at H
                have LMc37 := Aside0.mk c37
                clear c37
                obtain ⟨y137, hy137⟩ : ∃ y_ : List Int, y_ = (([] : List Int) ++ y120) := ⟨_, rfl⟩
                replace H : (if 0 ≤ (wrap64 (t135 * 2)) then (if (wrap64 (t135 * 2)) < (y137.length : Int) then (if 0 ≤ (wrap64 ((wrap64 (t135 * 2)) + 1)) then (if (wrap64 ((wrap64 (t135 * 2)) + 1)) < (y137.length : Int) then ((some ((y137.set ((wrap64 (t135 * 2)) : Int).toNat ((t136 / 256) % 256)).set ((wrap64 ((wrap64 (t135 * 2)) + 1)) : Int).toNat ((t136) % 256) : List Int)).bind fun y141 => (if (wrap64 (t135 * 2)) < (y120.length : Int) then (if (wrap64 ((wrap64 (t135 * 2)) + 1)) < (y120.length : Int) then (if (Go.bits .or .i64 (wrap64 ((wrap64 (rd y120 (wrap64 (t135 * 2)))) * 256)) (wrap64 (rd y120 (wrap64 ((wrap64 (t135 * 2)) + 1))))) = t136 then (packthreadkeep_InetTurned.j1 k1 y120 x11_1 y141 true) else (if (wrap64 ((Go.bits .or .i64 (wrap64 ((wrap64 (rd y120 (wrap64 (t135 * 2)))) * 256)) (wrap64 (rd y120 (wrap64 ((wrap64 (t135 * 2)) + 1))))) + t136)) = 65535 then (if (Go.bits .or .i64 (wrap64 ((wrap64 (rd y120 (wrap64 (t135 * 2)))) * 256)) (wrap64 (rd y120 (wrap64 ((wrap64 (t135 * 2)) + 1))))) = 0 then (packthreadkeep_InetTurned.j1 k1 y120 x11_1 y141 true) else (packthreadkeep_InetTurned.j1 k1 y120 x11_1 y141 (t136 == 0))) else (packthreadkeep_InetTurned.j1 k1 y120 x11_1 y141 false))) else (none)) else (none))) else (none)) else (none)) else (none)) else (none)) = some r := by first | (rw [hy137]; with_reducible exact H) | (have H2_ := (Option.bind_some _ _).symm.trans H; rw [hy137]; with_reducible exact H2_) | (have H2_ := (Option.bind_some _ _).symm.trans H; with_reducible exact H2_) | with_reducible exact H | (rw [hy137]; exact H) | exact H
                have Ny137 := Aside0.mk hy137
                clear hy137
                obtain ⟨ji38, hji38⟩ : ∃ j_ : Int, (wrap64 (t135 * 2)) = j_ := ⟨_, rfl⟩
                replace H : (if 0 ≤ (ji38) then (if (ji38) < (y137.length : Int) then (if 0 ≤ (wrap64 ((ji38) + 1)) then (if (wrap64 ((ji38) + 1)) < (y137.length : Int) then ((some ((y137.set ((ji38) : Int).toNat ((t136 / 256) % 256)).set ((wrap64 ((ji38) + 1)) : Int).toNat ((t136) % 256) : List Int)).bind fun y141 => (if (ji38) < (y120.length : Int) then (if (wrap64 ((ji38) + 1)) < (y120.length : Int) then (if (Go.bits .or .i64 (wrap64 ((wrap64 (rd y120 (ji38))) * 256)) (wrap64 (rd y120 (wrap64 ((ji38) + 1))))) = t136 then (packthreadkeep_InetTurned.j1 k1 y120 x11_1 y141 true) else (if (wrap64 ((Go.bits .or .i64 (wrap64 ((wrap64 (rd y120 (ji38))) * 256)) (wrap64 (rd y120 (wrap64 ((ji38) + 1))))) + t136)) = 65535 then (if (Go.bits .or .i64 (wrap64 ((wrap64 (rd y120 (ji38))) * 256)) (wrap64 (rd y120 (wrap64 ((ji38) + 1))))) = 0 then (packthreadkeep_InetTurned.j1 k1 y120 x11_1 y141 true) else (packthreadkeep_InetTurned.j1 k1 y120 x11_1 y141 (t136 == 0))) else (packthreadkeep_InetTurned.j1 k1 y120 x11_1 y141 false))) else (none)) else (none))) else (none)) else (none)) else (none)) else (none)) = some r := by first | (rw [hji38] at H; exact H) | (simp only [hji38] at H ⊢; exact H)
                (try rw [hji38] at A35)
                (try rw [hji38] at A36)
                have hji38w : (IntKind.i64.wrap (t135 * 2)) = ji38 := (i64_w _).trans hji38
                by_cases c39 : 0 ≤ (ji38)
                · rw [if_pos c39] at H
                  have c39b0 : decide (0 ≤ (ji38)) = true := decide_eq_true c39
                  clear c39
                  by_cases c40 : (ji38) < (y137.length : Int)
                  · rw [if_pos c40] at H
                    have c40b0 : decide ((ji38) < (y137.length : Int)) = true := decide_eq_true c40
                    clear c40
                    obtain ⟨y140, hy140⟩ : ∃ y_ : List Int, y_ = (y137.set ((ji38) : Int).toNat ((t136 / 256) % 256)) := ⟨_, rfl⟩
                    replace H : (if 0 ≤ (wrap64 ((ji38) + 1)) then (if (wrap64 ((ji38) + 1)) < (y137.length : Int) then ((some (y140.set ((wrap64 ((ji38) + 1)) : Int).toNat ((t136) % 256) : List Int)).bind fun y141 => (if (ji38) < (y120.length : Int) then (if (wrap64 ((ji38) + 1)) < (y120.length : Int) then (if (Go.bits .or .i64 (wrap64 ((wrap64 (rd y120 (ji38))) * 256)) (wrap64 (rd y120 (wrap64 ((ji38) + 1))))) = t136 then (packthreadkeep_InetTurned.j1 k1 y120 x11_1 y141 true) else (if (wrap64 ((Go.bits .or .i64 (wrap64 ((wrap64 (rd y120 (ji38))) * 256)) (wrap64 (rd y120 (wrap64 ((ji38) + 1))))) + t136)) = 65535 then (if (Go.bits .or .i64 (wrap64 ((wrap64 (rd y120 (ji38))) * 256)) (wrap64 (rd y120 (wrap64 ((ji38) + 1))))) = 0 then (packthreadkeep_InetTurned.j1 k1 y120 x11_1 y141 true) else (packthreadkeep_InetTurned.j1 k1 y120 x11_1 y141 (t136 == 0))) else (packthreadkeep_InetTurned.j1 k1 y120 x11_1 y141 false))) else (none)) else (none))) else (none)) else (none)) = some r := by first | (rw [hy140]; with_reducible exact H) | (have H2_ := (Option.bind_some _ _).symm.trans H; rw [hy140]; with_reducible exact H2_) | (have H2_ := (Option.bind_some _ _).symm.trans H; with_reducible exact H2_) | with_reducible exact H | (rw [hy140]; exact H) | exact H
                    have Ny140 := Aside0.mk hy140
                    clear hy140
                    obtain ⟨ji42, hji42⟩ : ∃ j_ : Int, (wrap64 ((ji38) + 1)) = j_ := ⟨_, rfl⟩
                    replace H : (if 0 ≤ (ji42) then (if (ji42) < (y137.length : Int) then ((some (y140.set ((ji42) : Int).toNat ((t136) % 256) : List Int)).bind fun y141 => (if (ji38) < (y120.length : Int) then (if (ji42) < (y120.length : Int) then (if (Go.bits .or .i64 (wrap64 ((wrap64 (rd y120 (ji38))) * 256)) (wrap64 (rd y120 (ji42)))) = t136 then (packthreadkeep_InetTurned.j1 k1 y120 x11_1 y141 true) else (if (wrap64 ((Go.bits .or .i64 (wrap64 ((wrap64 (rd y120 (ji38))) * 256)) (wrap64 (rd y120 (ji42)))) + t136)) = 65535 then (if (Go.bits .or .i64 (wrap64 ((wrap64 (rd y120 (ji38))) * 256)) (wrap64 (rd y120 (ji42)))) = 0 then (packthreadkeep_InetTurned.j1 k1 y120 x11_1 y141 true) else (packthreadkeep_InetTurned.j1 k1 y120 x11_1 y141 (t136 == 0))) else (packthreadkeep_InetTurned.j1 k1 y120 x11_1 y141 false))) else (none)) else (none))) else (none)) else (none)) = some r := by first | (rw [hji42] at H; exact H) | (simp only [hji42] at H ⊢; exact H)
                    (try rw [hji42] at A35)
                    (try rw [hji42] at A36)
                    have hji42w : (IntKind.i64.wrap ((ji38) + 1)) = ji42 := (i64_w _).trans hji42
                    by_cases c43 : 0 ≤ (ji42)
                    · rw [if_pos c43] at H
                      have c43b0 : decide (0 ≤ (ji42)) = true := decide_eq_true c43
                      clear c43
                      by_cases c44 : (ji42) < (y137.length : Int)
                      · rw [if_pos c44] at H
                        have c44b0 : decide ((ji42) < (y137.length : Int)) = true := decide_eq_true c44
                        clear c44
                        obtain ⟨y141, hy141⟩ : ∃ y_ : List Int, y_ = (y140.set ((ji42) : Int).toNat ((t136) % 256)) := ⟨_, rfl⟩
                        replace H : (if (ji38) < (y120.length : Int) then (if (ji42) < (y120.length : Int) then (if (Go.bits .or .i64 (wrap64 ((wrap64 (rd y120 (ji38))) * 256)) (wrap64 (rd y120 (ji42)))) = t136 then (packthreadkeep_InetTurned.j1 k1 y120 x11_1 y141 true) else (if (wrap64 ((Go.bits .or .i64 (wrap64 ((wrap64 (rd y120 (ji38))) * 256)) (wrap64 (rd y120 (ji42)))) + t136)) = 65535 then (if (Go.bits .or .i64 (wrap64 ((wrap64 (rd y120 (ji38))) * 256)) (wrap64 (rd y120 (ji42)))) = 0 then (packthreadkeep_InetTurned.j1 k1 y120 x11_1 y141 true) else (packthreadkeep_InetTurned.j1 k1 y120 x11_1 y141 (t136 == 0))) else (packthreadkeep_InetTurned.j1 k1 y120 x11_1 y141 false))) else (none)) else (none)) = some r := by first | (rw [hy141]; with_reducible exact H) | (have H2_ := (Option.bind_some _ _).symm.trans H; rw [hy141]; with_reducible exact H2_) | (have H2_ := (Option.bind_some _ _).symm.trans H; with_reducible exact H2_) | with_reducible exact H | (rw [hy141]; exact H) | exact H
                        have Ny141 := Aside0.mk hy141
                        clear hy141
                        by_cases c46 : (ji38) < (y120.length : Int)
                        · rw [if_pos c46] at H
                          have c46b0 : decide ((ji38) < (y120.length : Int)) = true := decide_eq_true c46
                          clear c46
                          by_cases c47 : (ji42) < (y120.length : Int)
                          · rw [if_pos c47] at H
                            have c47b0 : decide ((ji42) < (y120.length : Int)) = true := decide_eq_true c47
                            clear c47
                            have HC48 := Aside0.mk H
                            clear H
                            try go_wp2_with (first | ((with_reducible refine gate_callee (f := 16) rfl ?_); refine goesL_ (some 64) rfl rfl Try.func16 (by kernel_rfl) rfl #[.int .i64 a2, .int .i64 (wrap64 ((y120.length : Int) / 2))] rfl (by (try simp only [List.map_toArray, List.map_cons, List.map_nil]); first | done | rfl | (simp only [List.length_drop, List.length_take]; rfl)) ?_; (with_reducible refine (packthreadkeep_Picked.calls a2 (wrap64 ((y120.length : Int) / 2)) t135 _ A35.out).mono ?_); rintro e w' ⟨rfl, ⟨nd, rfl⟩⟩; refine ⟨_, rfl, ?_⟩; (try (rw [drewN_self wr]; generalize hq_ : World.drewN wr _ = wr; have n0_ : Aside0 (Kd.R (Kd.int .u8) 5 wr w.heap.size (fun k_ => some k_ ≠ (.slice Ao15 y120.length co15 : Value).ownBlock) u11 x11_1) := ⟨by rw [← hq_]; exact (by (with_reducible repeat (first | apply Kd.R_alloc | apply Kd.R_drewN | apply Kd.R_drew)); exact HO_11.out)⟩; have n1_ : Aside0 (Kd.R (Kd.int .u8) 5 wr w.heap.size (fun k_ => some k_ ≠ (u11 : Value).ownBlock) (.slice Ao15 y120.length co15) y120) := ⟨by rw [← hq_]; exact (by (with_reducible repeat (first | apply Kd.R_alloc | apply Kd.R_drewN | apply Kd.R_drew)); exact HO_9.out)⟩; have n2_ : Aside0 (Below w.heap.size w wr) := ⟨by rw [← hq_]; exact (by repeat (first | (with_reducible first | exact HB.out | apply below_alloc | apply pw_below_drewN | apply below_drew1) | exact HB.out))⟩; clear HO_11 HO_9 HB hq_; have HO_11 := n0_; have HO_9 := n1_; have HB := n2_; clear n0_ n1_ n2_))) | ((with_reducible refine gate_callee (f := 16) rfl ?_); refine goesL_ (some 67) rfl rfl Try.func16 (by kernel_rfl) rfl #[.int .i64 a3, .int .i64 65536] rfl (by (try simp only [List.map_toArray, List.map_cons, List.map_nil]); first | done | rfl | (simp only [List.length_drop, List.length_take]; rfl)) ?_; (with_reducible refine (packthreadkeep_Picked.calls a3 65536 t136 _ A36.out).mono ?_); rintro e w' ⟨rfl, ⟨nd, rfl⟩⟩; refine ⟨_, rfl, ?_⟩; (try (rw [drewN_self wr]; generalize hq_ : World.drewN wr _ = wr; have n0_ : Aside0 (Kd.R (Kd.int .u8) 5 wr w.heap.size (fun k_ => some k_ ≠ (.slice Ao15 y120.length co15 : Value).ownBlock) u11 x11_1) := ⟨by rw [← hq_]; exact (by (with_reducible repeat (first | apply Kd.R_alloc | apply Kd.R_drewN | apply Kd.R_drew)); exact HO_11.out)⟩; have n1_ : Aside0 (Kd.R (Kd.int .u8) 5 wr w.heap.size (fun k_ => some k_ ≠ (u11 : Value).ownBlock) (.slice Ao15 y120.length co15) y120) := ⟨by rw [← hq_]; exact (by (with_reducible repeat (first | apply Kd.R_alloc | apply Kd.R_drewN | apply Kd.R_drew)); exact HO_9.out)⟩; have n2_ : Aside0 (Below w.heap.size w wr) := ⟨by rw [← hq_]; exact (by repeat (first | (with_reducible first | exact HB.out | apply below_alloc | apply pw_below_drewN | apply below_drew1) | exact HB.out))⟩; clear HO_11 HO_9 HB hq_; have HO_11 := n0_; have HO_9 := n1_; have HB := n2_; clear n0_ n1_ n2_))) | ((with_reducible refine gate_builtin (b := .append) (xs := #[.const (.slice none 0 0), .tmp 68]) rfl ?_); at_builtin; refine Kd.R_append_rows (Kd.int .u8) (w0 := w) w.heap.size rfl (.const (.slice none 0 0)) (.tmp 68) 22 5 (.int .u8 0) 1 rfl Try.underlying22 info5 rfl (by decide) (by omega) (.slice none 0 0) ([] : List Int) y120 _ _ _ (fun k_ => some k_ ≠ (.slice Ao15 y120.length co15 : Value).ownBlock ∧ some k_ ≠ (u11 : Value).ownBlock) (fun _ => False) rfl rfl ?aO ?aR (fun _ _ h => h) (fun _ h => h.elim) ?aF ?aB ?aS ?aL ?_; (case aR => repeat (first | exact (Kd.R_reads' HO_9.out).2.2 | (with_reducible refine Kd.C_alloc ?_ _) | (with_reducible refine Kd.C_drewN ?_ _) | (with_reducible refine Kd.C_drew ?_))); (case aB => exact (by repeat (first | (with_reducible first | exact HB.out | apply below_alloc | apply pw_below_drewN | apply below_drew1) | exact HB.out))); (case aF => exact (fun k_ hk => ⟨Kd.fresh' (Kd.R_lt (by (with_reducible repeat (first | apply Kd.R_alloc | apply Kd.R_drewN | apply Kd.R_drew)); exact HO_9.out)) k_ hk, Kd.fresh' (Kd.R_lt (by (with_reducible repeat (first | apply Kd.R_alloc | apply Kd.R_drewN | apply Kd.R_drew)); exact HO_11.out)) k_ hk⟩)); (case aO => exact ((Kd.R_nil _ _ _ _ (fun k_ => some k_ ≠ (.slice Ao15 y120.length co15 : Value).ownBlock ∧ some k_ ≠ (u11 : Value).ownBlock)))); (case aS => exact (below_size (by repeat (first | (with_reducible first | exact HB.out | apply below_alloc | apply pw_below_drewN | apply below_drew1) | exact HB.out)))); (case aL => have := LMc37.out; omega); intro v138 w49 ho hb hg hat; rw [← Ny137.out] at ho; have n0_ := Aside0.mk (Kd.R_after (Kd.R_apart_nil (by (with_reducible repeat (first | apply Kd.R_alloc | apply Kd.R_drewN | apply Kd.R_drew)); exact HO_9.out)) hg hat); have n1_ := Aside0.mk (Kd.R_after (Kd.R_apart_nil (by (with_reducible repeat (first | apply Kd.R_alloc | apply Kd.R_drewN | apply Kd.R_drew)); exact HO_11.out)) hg hat); have n2_ := Aside0.mk (hb); have n3_ := Aside0.mk (ho); clear HO_9; clear HO_11; clear HB; have HO_9 := n0_; have HO_11 := n1_; have HB := n2_; have HO139 := n3_; clear n0_ n1_ n2_ n3_; clear ho hb hg hat; have p41 : 0 ≤ ((ji38) : Int) := of_decide_eq_true (by first | (with_reducible assumption) | assumption); have q41 : ((ji38) : Int) < ((y137.length : Int) : Int) := of_decide_eq_true (by first | (with_reducible assumption) | assumption); obtain ⟨go41, co41, eo41, gb41, gl41, cl41, HG41⟩ := Kd.R_form HO139.out (by omega); (first | cases eo41 | (injection eo41 with ea_ en_ ec_; (first | subst ea_ | (injection ea_ with ea_; subst ea_)); subst ec_; clear en_)); have GB41 := Aside0.mk gb41; have GG41 := Aside0.mk HG41; clear gb41 gl41 HG41; obtain ⟨hx41_0, hf41_0⟩ := Kd.R_celln 0 HO139.out ((ji38) : Int) p41 q41; replace p41 := eq_true p41; replace q41 := eq_true q41; obtain ⟨hy50_, hz50_⟩ := Kd.R_celln 0 HO139.out ((ji38) : Int) (of_decide_eq_true (by first | (with_reducible assumption) | assumption)) (of_decide_eq_true (by first | (with_reducible assumption) | assumption)); have HP50 := Kd.R_putg HO139.out ((ji38) : Int) ((t136 / 256) % 256)) | ((with_reducible refine gate_store (t := 5) (p := 75) rfl ?_); refine store_event (t := 5) (p := 75) (v := ?vo_w51) (w1 := (w49.setCell ⟨go41, ((ji38) : Int).toNat, none⟩ (.int .u8 ((t136 / 256) % 256)))) ?hg ?ho ?hn ?hr ?_; (case ho => rfl); (case hg => rfl); (case hn => rfl); (case hr => first | (go_simp; done) | (go_simp; rfl)); intro w51 hw; have hg : w49.grownBy w51 (some go41) := (by rw [hw]; exact HP50.2); have hp_ : Kd.R (Kd.int .u8) 5 w51 w.heap.size (fun k_ => some k_ ≠ (.slice Ao15 y120.length co15 : Value).ownBlock ∧ some k_ ≠ (u11 : Value).ownBlock) (.slice (some ⟨go41, 0, none⟩) y137.length co41) y140 := (by rw [hw, Ny140.out]; exact HP50.1); clear HP50; have n0_ := Aside0.mk (Kd.R_after (v := (.slice (some ⟨go41, 0, none⟩) y137.length co41)) (v1 := (.slice (some ⟨go41, 0, none⟩) y137.length co41)) (ok := (fun k_ => some k_ ≠ (u11 : Value).ownBlock)) (by (with_reducible repeat (first | apply Kd.R_alloc | apply Kd.R_drewN | apply Kd.R_drew)); exact HO_9.out) hg (.inl rfl)); have n1_ := Aside0.mk (Kd.R_after (v := (.slice (some ⟨go41, 0, none⟩) y137.length co41)) (v1 := (.slice (some ⟨go41, 0, none⟩) y137.length co41)) (ok := (fun k_ => some k_ ≠ (.slice Ao15 y120.length co15 : Value).ownBlock)) (by (with_reducible repeat (first | apply Kd.R_alloc | apply Kd.R_drewN | apply Kd.R_drew)); exact HO_11.out) hg (.inl rfl)); have n2_ := Aside0.mk (hp_); have n3_ := Aside0.mk ((by rw [hw]; exact below_set (HB.out) GB41.out : Below w.heap.size w w51)); clear HO_9; clear HO_11; clear HO139; clear HB; have HO_9 := n0_; have HO_11 := n1_; have HO139 := n2_; have HB := n3_; clear n0_ n1_ n2_ n3_; clear hg hw hp_; have p45 : 0 ≤ ((ji42) : Int) := of_decide_eq_true (by first | (with_reducible assumption) | assumption); have q45 : ((ji42) : Int) < ((y137.length : Int) : Int) := of_decide_eq_true (by first | (with_reducible assumption) | assumption); obtain ⟨hx45_0, hf45_0⟩ := Kd.R_celln 0 HO139.out ((ji42) : Int) p45 q45; replace p45 := eq_true p45; replace q45 := eq_true q45; obtain ⟨hy52_, hz52_⟩ := Kd.R_celln 0 HO139.out ((ji42) : Int) (of_decide_eq_true (by first | (with_reducible assumption) | assumption)) (of_decide_eq_true (by first | (with_reducible assumption) | assumption)); have HP52 := Kd.R_putg HO139.out ((ji42) : Int) ((t136) % 256)) | ((with_reducible refine gate_store (t := 5) (p := 81) rfl ?_); refine store_event (t := 5) (p := 81) (v := ?vo_w53) (w1 := (w51.setCell ⟨go41, ((ji42) : Int).toNat, none⟩ (.int .u8 ((t136) % 256)))) ?hg ?ho ?hn ?hr ?_; (case ho => rfl); (case hg => rfl); (case hn => rfl); (case hr => first | (go_simp; done) | (go_simp; rfl)); intro w53 hw; have hg : w51.grownBy w53 (some go41) := (by rw [hw]; exact HP52.2); have hp_ : Kd.R (Kd.int .u8) 5 w53 w.heap.size (fun k_ => some k_ ≠ (.slice Ao15 y120.length co15 : Value).ownBlock ∧ some k_ ≠ (u11 : Value).ownBlock) (.slice (some ⟨go41, 0, none⟩) y137.length co41) y141 := (by rw [hw, Ny141.out]; exact HP52.1); clear HP52; have n0_ := Aside0.mk (Kd.R_after (v := (.slice (some ⟨go41, 0, none⟩) y137.length co41)) (v1 := (.slice (some ⟨go41, 0, none⟩) y137.length co41)) (ok := (fun k_ => some k_ ≠ (u11 : Value).ownBlock)) (by (with_reducible repeat (first | apply Kd.R_alloc | apply Kd.R_drewN | apply Kd.R_drew)); exact HO_9.out) hg (.inl rfl)); have n1_ := Aside0.mk (Kd.R_after (v := (.slice (some ⟨go41, 0, none⟩) y137.length co41)) (v1 := (.slice (some ⟨go41, 0, none⟩) y137.length co41)) (ok := (fun k_ => some k_ ≠ (.slice Ao15 y120.length co15 : Value).ownBlock)) (by (with_reducible repeat (first | apply Kd.R_alloc | apply Kd.R_drewN | apply Kd.R_drew)); exact HO_11.out) hg (.inl rfl)); have n2_ := Aside0.mk (hp_); have n3_ := Aside0.mk ((by rw [hw]; exact below_set (HB.out) GB41.out : Below w.heap.size w w53)); clear HO_9; clear HO_11; clear HO139; clear HB; have HO_9 := n0_; have HO_11 := n1_; have HO139 := n2_; have HB := n3_; clear n0_ n1_ n2_ n3_; clear hg hw hp_))
                            have n0_ := Aside0.mk (Kd.R_drew HO_9.out)
                            have n1_ := Aside0.mk (Kd.R_drew HO_11.out)
                            have n2_ := Aside0.mk (Kd.R_drew HO139.out)
                            have n3_ := Aside0.mk (below_drew1 HB.out)
                            clear HO_9
                            clear HO_11
                            clear HO139
                            clear HB
                            have HO_9 := n0_
                            have HO_11 := n1_
                            have HO139 := n2_
                            have HB := n3_
                            clear n0_ n1_ n2_ n3_
                            have p142 : 0 ≤ ((ji38) : Int) := of_decide_eq_true (by first | (with_reducible assumption) | assumption)
                            have q142 : (ji38) < (y120.length : Int) := of_decide_eq_true (by first | (with_reducible assumption) | assumption)
                            obtain ⟨ad142, e142, hx142_0⟩ := Kd.at_int (Kd.R_reads' HO_9.out).2.2 (ji38) p142 q142
                            cases e142
                            replace p142 := eq_true p142
                            replace q142 := eq_true q142
                            have p143 : 0 ≤ ((ji42) : Int) := of_decide_eq_true (by first | (with_reducible assumption) | assumption)
                            have q143 : (ji42) < (y120.length : Int) := of_decide_eq_true (by first | (with_reducible assumption) | assumption)
                            obtain ⟨ad143, e143, hx143_0⟩ := Kd.at_int (Kd.R_reads' HO_9.out).2.2 (ji42) p143 q143
                            obtain rfl : ad142 = ad143 := (by injection e143)
                            replace p143 := eq_true p143
                            replace q143 := eq_true q143
                            refine start_ (n := 14) (S := fun w' => w'.cell? (ad142.add ((ji38)).toNat) = some (.int .u8 (rd y120 (ji38))) ∧ w'.cell? (ad142.add ((ji42)).toNat) = some (.int .u8 (rd y120 (ji42)))) (ds := []) #[false, false, false, false, false, false, false, false, false, false, false, false, false, false] (by kernel_rfl) rfl rfl ⟨hx142_0, hx143_0⟩ (fun hHeld => ?_); refine with_tabW packthreadkeep_InetTurned.tab15 packthreadkeep_InetTurned.bits15 (fun HT_ HW_ => ?_)
                            generalize w53.drew = w54 at HO_9 HO_11 HO139 HB hx142_0 hx143_0 hHeld ⊢
                            refine pure_ (i := 0) (N := some 82) (v := ?_) (a' := ?_) #[true, false, false, false, false, false, false, false, false, false, false, false, false, false] rfl rfl (any_of HT_.out (by kernel_rfl)) (fun _ _ _ h => h) (Or.inl ⟨by rfl, ?_⟩) ?_ ?_
                            rotate_left
                            · intro w'
                              go_simp
                              with_reducible rfl
                            rotate_left
                            · simp only [Act.put, List.setIfInBounds_toArray, List.set_cons_zero, List.set_cons_succ, i64_w, i32_w]
                              rfl
                            refine pure_ (i := 1) (N := some 83) (v := ?_) (a' := ?_) #[true, true, false, false, false, false, false, false, false, false, false, false, false, false] rfl rfl (any_of HT_.out (by kernel_rfl)) (fun _ _ _ h => h) (Or.inl ⟨by rfl, ?_⟩) ?_ ?_
                            rotate_left
                            · intro w'
                              go_simp
                              with_reducible rfl
                            rotate_left
                            · simp only [Act.put, List.setIfInBounds_toArray, List.set_cons_zero, List.set_cons_succ, i64_w, i32_w]
                              rfl
                            refine pure_ (i := 2) (N := some 84) (v := ?_) (a' := ?_) #[true, true, true, false, false, false, false, false, false, false, false, false, false, false] rfl rfl (any_of HT_.out (by kernel_rfl)) (fun _ _ _ h => h) (Or.inl ⟨by rfl, ?_⟩) ?_ ?_
                            rotate_left
                            · intro w'
                              go_simp
                              with_reducible rfl
                            rotate_left
                            · simp only [Act.put, List.setIfInBounds_toArray, List.set_cons_zero, List.set_cons_succ, i64_w, i32_w]
                              rfl
                            refine pure_ (i := 6) (N := some 88) (v := ?_) (a' := ?_) #[true, true, true, false, false, false, true, false, false, false, false, false, false, false] rfl rfl (any_of HT_.out (by kernel_rfl)) (fun _ _ _ h => h) (Or.inl ⟨by rfl, ?_⟩) ?_ ?_
                            rotate_left
                            · intro w'
                              go_simp
                              with_reducible rfl
                            rotate_left
                            · simp only [Act.put, List.setIfInBounds_toArray, List.set_cons_zero, List.set_cons_succ, i64_w, i32_w]
                              rfl
                            refine pure_ (i := 7) (N := some 89) (v := ?_) (a' := ?_) #[true, true, true, false, false, false, true, true, false, false, false, false, false, false] rfl rfl (any_of HT_.out (by kernel_rfl)) (fun _ _ _ h => h) (Or.inl ⟨by rfl, ?_⟩) ?_ ?_
                            rotate_left
                            · intro w'
                              go_simp
                              with_reducible rfl
                            rotate_left
                            · simp only [Act.put, List.setIfInBounds_toArray, List.set_cons_zero, List.set_cons_succ, i64_w, i32_w]
                              rfl
                            refine pure_ (i := 8) (N := some 90) (v := ?_) (a' := ?_) #[true, true, true, false, false, false, true, true, true, false, false, false, false, false] rfl rfl (any_of HT_.out (by kernel_rfl)) (fun _ _ _ h => h) (Or.inl ⟨by rfl, ?_⟩) ?_ ?_
                            rotate_left
                            · intro w'
                              go_simp
                              with_reducible rfl
                            rotate_left
                            · simp only [Act.put, List.setIfInBounds_toArray, List.set_cons_zero, List.set_cons_succ, i64_w, i32_w]
                              rfl
                            refine pure_ (i := 9) (N := some 91) (v := ?_) (a' := ?_) #[true, true, true, false, false, false, true, true, true, true, false, false, false, false] rfl rfl (any_of HT_.out (by kernel_rfl)) (fun _ _ _ h => h) (Or.inl ⟨by rfl, ?_⟩) ?_ ?_
                            rotate_left
                            · intro w'
                              go_simp
                              with_reducible rfl
                            rotate_left
                            · simp only [Act.put, List.setIfInBounds_toArray, List.set_cons_zero, List.set_cons_succ, i64_w, i32_w]
                              rfl
                            refine take_ (i := 3) (N := some 85) (v := ?_) (a' := ?_) #[true, true, true, true, false, false, true, true, true, true, false, false, false, false] rfl rfl (take_ofW HT_.out HW_.out (by kernel_rfl)) (fun _ _ _ h => h) (Or.inl ⟨by rfl, ?_⟩) hHeld ?_ ?_
                            rotate_left
                            · rintro w' ⟨s0, s1⟩
                              go_simp
                              with_reducible rfl
                            rotate_left
                            · simp only [Act.put, List.setIfInBounds_toArray, List.set_cons_zero, List.set_cons_succ, i64_w, i32_w]
                              rfl
                            refine pure_ (i := 4) (N := some 86) (v := ?_) (a' := ?_) #[true, true, true, true, true, false, true, true, true, true, false, false, false, false] rfl rfl (any_of HT_.out (by kernel_rfl)) (fun _ _ _ h => h) (Or.inl ⟨by rfl, ?_⟩) ?_ ?_
                            rotate_left
                            · intro w'
                              go_simp
                              with_reducible rfl
                            rotate_left
                            · simp only [Act.put, List.setIfInBounds_toArray, List.set_cons_zero, List.set_cons_succ, i64_w, i32_w]
                              rfl
                            refine pure_ (i := 5) (N := some 87) (v := ?_) (a' := ?_) #[true, true, true, true, true, true, true, true, true, true, false, false, false, false] rfl rfl (any_of HT_.out (by kernel_rfl)) (fun _ _ _ h => h) (Or.inl ⟨by rfl, ?_⟩) ?_ ?_
                            rotate_left
                            · intro w'
                              go_simp
                              with_reducible rfl
                            rotate_left
                            · simp only [Act.put, List.setIfInBounds_toArray, List.set_cons_zero, List.set_cons_succ, i64_w, i32_w]
                              rfl
                            refine take_ (i := 10) (N := some 92) (v := ?_) (a' := ?_) #[true, true, true, true, true, true, true, true, true, true, true, false, false, false] rfl rfl (take_ofW HT_.out HW_.out (by kernel_rfl)) (fun _ _ _ h => h) (Or.inl ⟨by rfl, ?_⟩) hHeld ?_ ?_
                            rotate_left
                            · rintro w' ⟨s0, s1⟩
                              go_simp
                              with_reducible rfl
                            rotate_left
                            · simp only [Act.put, List.setIfInBounds_toArray, List.set_cons_zero, List.set_cons_succ, i64_w, i32_w]
                              rfl
                            refine pure_ (i := 11) (N := some 93) (v := ?_) (a' := ?_) #[true, true, true, true, true, true, true, true, true, true, true, true, false, false] rfl rfl (any_of HT_.out (by kernel_rfl)) (fun _ _ _ h => h) (Or.inl ⟨by rfl, ?_⟩) ?_ ?_
                            rotate_left
                            · intro w'
                              go_simp
                              with_reducible rfl
                            rotate_left
                            · simp only [Act.put, List.setIfInBounds_toArray, List.set_cons_zero, List.set_cons_succ, i64_w, i32_w]
                              rfl
                            refine pure_ (i := 12) (N := some 94) (v := ?_) (a' := ?_) #[true, true, true, true, true, true, true, true, true, true, true, true, true, false] rfl rfl (any_of HT_.out (by kernel_rfl)) (fun _ _ _ h => h) (Or.inl ⟨by rfl, ?_⟩) ?_ ?_
                            rotate_left
                            · intro w'
                              go_simp
                              with_reducible rfl
                            rotate_left
                            · simp only [Act.put, List.setIfInBounds_toArray, List.set_cons_zero, List.set_cons_succ, i64_w, i32_w]
                              rfl
                            refine pure_ (i := 13) (N := some 17) (v := ?_) (a' := ?_) #[true, true, true, true, true, true, true, true, true, true, true, true, true, true] rfl rfl (any_of HT_.out (by kernel_rfl)) (fun _ _ _ h => h) (Or.inl ⟨by rfl, ?_⟩) ?_ ?_
                            rotate_left
                            · intro w'
                              go_simp
                              with_reducible rfl
                            rotate_left
                            · simp only [Act.put, List.setIfInBounds_toArray, List.set_cons_zero, List.set_cons_succ, i64_w, i32_w]
                              rfl
                            refine done_ (done_of HT_.out (by kernel_rfl)) ?_
                            go_upto_region 16 with (fail)
                            go_cut [18] (fun v18 wc => ∃ (kq : Nat) (x18_47 : Bool), v18 = .bool x18_47 ∧ Aside0 (packthreadkeep_InetTurned.j1 kq y120 x11_1 y141 x18_47 = some r) ∧ Aside0 (kq ≤ k1) ∧ Aside0 (Kd.R (Kd.int .u8) 5 wc w.heap.size (fun k_ => some k_ ≠ (u11 : Value).ownBlock ∧ some k_ ≠ ((.slice (some ⟨go41, 0, none⟩) y137.length co41) : Value).ownBlock) (.slice (some ad142) y120.length co15) y120) ∧ Aside0 (Kd.R (Kd.int .u8) 5 wc w.heap.size (fun k_ => some k_ ≠ ((.slice (some ad142) y120.length co15) : Value).ownBlock ∧ some k_ ≠ ((.slice (some ⟨go41, 0, none⟩) y137.length co41) : Value).ownBlock) u11 x11_1) ∧ Aside0 (Kd.R (Kd.int .u8) 5 wc w.heap.size (fun k_ => some k_ ≠ ((.slice (some ad142) y120.length co15) : Value).ownBlock ∧ some k_ ≠ (u11 : Value).ownBlock) (.slice (some ⟨go41, 0, none⟩) y137.length co41) y141) ∧ Aside0 (Below w.heap.size w wc))
                            case first =>
                              have H := HC48.out
                              clear HC48
                              by_cases c55 : (Go.bits .or .i64 (wrap64 ((wrap64 (rd y120 (ji38))) * 256)) (wrap64 (rd y120 (ji42)))) = t136
                              · rw [if_pos c55] at H
                                have c55b0 : ((Go.bits .or .i64 (wrap64 ((wrap64 (rd y120 (ji38))) * 256)) (wrap64 (rd y120 (ji42)))) == t136) = true := beq_iff_eq.mpr c55
                                have c55b1 : ((Go.bits .or .i64 (wrap64 ((wrap64 (rd y120 (ji38))) * 256)) (wrap64 (rd y120 (ji42)))) != t136) = false := bne_eq_false_iff_eq.mpr c55
                                clear c55
                                (first | rw [c55b0] | (simp only [i64_w, i32_w]; rw [c55b0]) | skip)
                                have H' := Aside0.mk H
                                clear H
                                go_wp2
                                go_meet
                                case rel => exact ⟨_, (true), (by first | rfl | (simp; done) | (simp [*]; done)), H', ⟨by have := HK1.out; first | omega | exact Nat.le_refl _⟩, ⟨by (with_reducible repeat (first | apply Kd.R_alloc | apply Kd.R_drewN | apply Kd.R_drew)); exact HO_9.out⟩, ⟨by (with_reducible repeat (first | apply Kd.R_alloc | apply Kd.R_drewN | apply Kd.R_drew)); exact HO_11.out⟩, ⟨by (with_reducible repeat (first | apply Kd.R_alloc | apply Kd.R_drewN | apply Kd.R_drew)); exact HO139.out⟩, ⟨by repeat (first | (with_reducible first | exact HB.out | apply below_alloc | apply pw_below_drewN | apply below_drew1) | exact HB.out)⟩⟩
                              · rw [if_neg c55] at H
                                have c55b0 : ((Go.bits .or .i64 (wrap64 ((wrap64 (rd y120 (ji38))) * 256)) (wrap64 (rd y120 (ji42)))) == t136) = false := beq_eq_false_iff_ne.mpr c55
                                have c55b1 : ((Go.bits .or .i64 (wrap64 ((wrap64 (rd y120 (ji38))) * 256)) (wrap64 (rd y120 (ji42)))) != t136) = true := bne_iff_ne.mpr c55
                                (first | rw [c55b0] | (simp only [i64_w, i32_w]; rw [c55b0]) | skip)
                                by_cases c56 : (wrap64 ((Go.bits .or .i64 (wrap64 ((wrap64 (rd y120 (ji38))) * 256)) (wrap64 (rd y120 (ji42)))) + t136)) = 65535
                                · rw [if_pos c56] at H
                                  have c56b0 : ((wrap64 ((Go.bits .or .i64 (wrap64 ((wrap64 (rd y120 (ji38))) * 256)) (wrap64 (rd y120 (ji42)))) + t136)) == 65535) = true := beq_iff_eq.mpr c56
                                  have c56b1 : ((wrap64 ((Go.bits .or .i64 (wrap64 ((wrap64 (rd y120 (ji38))) * 256)) (wrap64 (rd y120 (ji42)))) + t136)) != 65535) = false := bne_eq_false_iff_eq.mpr c56
                                  clear c56
                                  by_cases c57 : (Go.bits .or .i64 (wrap64 ((wrap64 (rd y120 (ji38))) * 256)) (wrap64 (rd y120 (ji42)))) = 0
                                  · rw [if_pos c57] at H
                                    have c57b0 : ((Go.bits .or .i64 (wrap64 ((wrap64 (rd y120 (ji38))) * 256)) (wrap64 (rd y120 (ji42)))) == 0) = true := beq_iff_eq.mpr c57
                                    have c57b1 : ((Go.bits .or .i64 (wrap64 ((wrap64 (rd y120 (ji38))) * 256)) (wrap64 (rd y120 (ji42)))) != 0) = false := bne_eq_false_iff_eq.mpr c57
                                    clear c57
                                    have H' := Aside0.mk H
                                    clear H
                                    go_wp2
                                    go_meet
                                    case rel => exact ⟨_, (true), (by first | rfl | (simp; done) | (simp [*]; done)), H', ⟨by have := HK1.out; first | omega | exact Nat.le_refl _⟩, ⟨by (with_reducible repeat (first | apply Kd.R_alloc | apply Kd.R_drewN | apply Kd.R_drew)); exact HO_9.out⟩, ⟨by (with_reducible repeat (first | apply Kd.R_alloc | apply Kd.R_drewN | apply Kd.R_drew)); exact HO_11.out⟩, ⟨by (with_reducible repeat (first | apply Kd.R_alloc | apply Kd.R_drewN | apply Kd.R_drew)); exact HO139.out⟩, ⟨by repeat (first | (with_reducible first | exact HB.out | apply below_alloc | apply pw_below_drewN | apply below_drew1) | exact HB.out)⟩⟩
                                  · rw [if_neg c57] at H
                                    have c57b0 : ((Go.bits .or .i64 (wrap64 ((wrap64 (rd y120 (ji38))) * 256)) (wrap64 (rd y120 (ji42)))) == 0) = false := beq_eq_false_iff_ne.mpr c57
                                    have c57b1 : ((Go.bits .or .i64 (wrap64 ((wrap64 (rd y120 (ji38))) * 256)) (wrap64 (rd y120 (ji42)))) != 0) = true := bne_iff_ne.mpr c57
                                    have H' := Aside0.mk H
                                    clear H
                                    go_wp2
                                    go_meet
                                    case rel => exact ⟨_, ((t136 == 0)), (by first | rfl | (simp; done) | (simp [*]; done)), H', ⟨by have := HK1.out; first | omega | exact Nat.le_refl _⟩, ⟨by (with_reducible repeat (first | apply Kd.R_alloc | apply Kd.R_drewN | apply Kd.R_drew)); exact HO_9.out⟩, ⟨by (with_reducible repeat (first | apply Kd.R_alloc | apply Kd.R_drewN | apply Kd.R_drew)); exact HO_11.out⟩, ⟨by (with_reducible repeat (first | apply Kd.R_alloc | apply Kd.R_drewN | apply Kd.R_drew)); exact HO139.out⟩, ⟨by repeat (first | (with_reducible first | exact HB.out | apply below_alloc | apply pw_below_drewN | apply below_drew1) | exact HB.out)⟩⟩
                                · rw [if_neg c56] at H
                                  have c56b0 : ((wrap64 ((Go.bits .or .i64 (wrap64 ((wrap64 (rd y120 (ji38))) * 256)) (wrap64 (rd y120 (ji42)))) + t136)) == 65535) = false := beq_eq_false_iff_ne.mpr c56
                                  have c56b1 : ((wrap64 ((Go.bits .or .i64 (wrap64 ((wrap64 (rd y120 (ji38))) * 256)) (wrap64 (rd y120 (ji42)))) + t136)) != 65535) = true := bne_iff_ne.mpr c56
                                  have H' := Aside0.mk H
                                  clear H
                                  go_wp2
                                  go_meet
                                  case rel => exact ⟨_, (false), (by first | rfl | (simp; done) | (simp [*]; done)), H', ⟨by have := HK1.out; first | omega | exact Nat.le_refl _⟩, ⟨by (with_reducible repeat (first | apply Kd.R_alloc | apply Kd.R_drewN | apply Kd.R_drew)); exact HO_9.out⟩, ⟨by (with_reducible repeat (first | apply Kd.R_alloc | apply Kd.R_drewN | apply Kd.R_drew)); exact HO_11.out⟩, ⟨by (with_reducible repeat (first | apply Kd.R_alloc | apply Kd.R_drewN | apply Kd.R_drew)); exact HO139.out⟩, ⟨by repeat (first | (with_reducible first | exact HB.out | apply below_alloc | apply pw_below_drewN | apply below_drew1) | exact HB.out)⟩⟩
                            case rest =>
                              clear HC48
                              try clear c1
                              try clear p1
                              try clear q1
                              try clear hx1
                              try clear c2
                              try clear p2
                              try clear c3
                              try clear c4
                              try clear p4
                              try clear q4
                              try clear hx4
                              try clear hf4
                              try clear c5
                              try clear c6
                              try clear p6
                              try clear c8
                              try clear c8b0
                              try clear c8b1
                              try clear c9
                              try clear c9b0
                              try clear c9b1
                              try clear p12
                              try clear q12
                              try clear hx12
                              try clear p14
                              try clear q14
                              try clear hx14
                              try clear c15
                              try clear c16
                              try clear q16
                              try clear c17
                              try clear c17b0
                              try clear c19
                              try clear c19b0
                              try clear c19b1
                              try clear c21
                              try clear c21b0
                              try clear c22
                              try clear c22b0
                              try clear c24
                              try clear c24b0
                              try clear c25
                              try clear c25b0
                              try clear c26
                              try clear c27
                              try clear c37
                              try clear c39
                              try clear c39b0
                              try clear c40
                              try clear c40b0
                              try clear p41
                              try clear q41
                              try clear hx41
                              try clear hf41
                              try clear c43
                              try clear c43b0
                              try clear c44
                              try clear c44b0
                              try clear p45
                              try clear q45
                              try clear hx45
                              try clear hf45
                              try clear c46
                              try clear c46b0
                              try clear c47
                              try clear c47b0
                              try clear c55
                              try clear c55b0
                              try clear c55b1
                              try clear c56
                              try clear c56b0
                              try clear c56b1
                              try clear c57
                              try clear c57b0
                              try clear c57b1
                              try clear hx124_0
                              try clear hx125_0
                              try clear hx142_0
                              try clear hx143_0
                              try clear hx41_0
                              try clear hx45_0
                              try clear p124
                              try clear p125
                              try clear p142
                              try clear p143
                              try clear p2
                              try clear p41
                              try clear p45
                              try clear p6
                              try clear q1
                              try clear q124
                              try clear q125
                              try clear q142
                              try clear q143
                              try clear q16
                              try clear q41
                              try clear q45
                              obtain ⟨kq, x18_47, rfl, HA, HJ47, HO_9, HO_11, HO_16, HB⟩ := hcut
                              have hl16_47 := (Kd.R_reads' HO_16.out).1
                              rw [hl16_47] at HO_16
                              (try simp only [hl16_47])
                              (try simp only [hl16_47] at HO_9)
                              (try simp only [hl16_47] at HO_11)
                              cases kq with
                              | zero => exact absurd HA.out (by simp [packthreadkeep_InetTurned.j1])
                              | succ kj47 =>
                                have H := HA.out
                                clear HA
                                simp only [packthreadkeep_InetTurned.j1] at H
                                replace H := Option.bind_eq_some_iff.mp H
                                obtain ⟨t144, A580, H⟩ := H
                                replace H : ((inet_Fold.f kj47 y120).bind fun t145 => ((packthreadkeep_inetSure.f kj47).bind fun t146 => (if t146 = true then ((inet_Fold.f kj47 y120).bind fun t147 => ((inet_Fold.f kj47 x11_1).bind fun t148 => (if t147 = t148 then (if ((t144 == t145) == x18_47) = true then (some true) else (if x18_47 = true then ((inet_Fold.f kj47 y120).bind fun t149 => ((inet_Fold.f kj47 y141).bind fun t150 => (some ((wrap64 (t149 * t150)) == 0)))) else (some false))) else (some false)))) else (some false)))) = some r := H
                                have A58 := Aside0.mk A580
                                clear A580
                                replace H := Option.bind_eq_some_iff.mp H
                                obtain ⟨t145, A590, H⟩ := H
                                replace H : ((packthreadkeep_inetSure.f kj47).bind fun t146 => (if t146 = true then ((inet_Fold.f kj47 y120).bind fun t147 => ((inet_Fold.f kj47 x11_1).bind fun t148 => (if t147 = t148 then (if ((t144 == t145) == x18_47) = true then (some true) else (if x18_47 = true then ((inet_Fold.f kj47 y120).bind fun t149 => ((inet_Fold.f kj47 y141).bind fun t150 => (some ((wrap64 (t149 * t150)) == 0)))) else (some false))) else (some false)))) else (some false))) = some r := H
                                have A59 := Aside0.mk A590
                                clear A590
                                replace H := Option.bind_eq_some_iff.mp H
                                obtain ⟨t146, A600, H⟩ := H
                                replace H : (if t146 = true then ((inet_Fold.f kj47 y120).bind fun t147 => ((inet_Fold.f kj47 x11_1).bind fun t148 => (if t147 = t148 then (if ((t144 == t145) == x18_47) = true then (some true) else (if x18_47 = true then ((inet_Fold.f kj47 y120).bind fun t149 => ((inet_Fold.f kj47 y141).bind fun t150 => (some ((wrap64 (t149 * t150)) == 0)))) else (some false))) else (some false)))) else (some false)) = some r := H
                                have A60 := Aside0.mk A600
                                clear A600
                                by_cases c61 : t146 = true
                                · subst c61
                                  have H1 : ((inet_Fold.f kj47 y120).bind fun t147 => ((inet_Fold.f kj47 x11_1).bind fun t148 => (if t147 = t148 then (if ((t144 == t145) == x18_47) = true then (some true) else (if x18_47 = true then ((inet_Fold.f kj47 y120).bind fun t149 => ((inet_Fold.f kj47 y141).bind fun t150 => (some ((wrap64 (t149 * t150)) == 0)))) else (some false))) else (some false)))) = some r := by rw [if_pos rfl] at H; exact H
                                  clear H
                                  have H := H1
                                  clear H1
                                  replace H := Option.bind_eq_some_iff.mp H
                                  obtain ⟨t147, A620, H⟩ := H
                                  replace H : ((inet_Fold.f kj47 x11_1).bind fun t148 => (if t147 = t148 then (if ((t144 == t145) == x18_47) = true then (some true) else (if x18_47 = true then ((inet_Fold.f kj47 y120).bind fun t149 => ((inet_Fold.f kj47 y141).bind fun t150 => (some ((wrap64 (t149 * t150)) == 0)))) else (some false))) else (some false))) = some r := H
                                  have A62 := Aside0.mk A620
                                  clear A620
                                  replace H := Option.bind_eq_some_iff.mp H
                                  obtain ⟨t148, A630, H⟩ := H
                                  replace H : (if t147 = t148 then (if ((t144 == t145) == x18_47) = true then (some true) else (if x18_47 = true then ((inet_Fold.f kj47 y120).bind fun t149 => ((inet_Fold.f kj47 y141).bind fun t150 => (some ((wrap64 (t149 * t150)) == 0)))) else (some false))) else (some false)) = some r := H
                                  have A63 := Aside0.mk A630
                                  clear A630
                                  by_cases c64 : t147 = t148
                                  · rw [if_pos c64] at H
                                    have c64b0 : (t147 == t148) = true := beq_iff_eq.mpr c64
                                    have c64b1 : (t147 != t148) = false := bne_eq_false_iff_eq.mpr c64
                                    clear c64
                                    by_cases c65 : ((t144 == t145) == x18_47) = true
                                    · rw [if_pos c65] at H
                                      have c65b0 : ((t144 == t145) == x18_47) = true := c65
                                      (try (have c65b1 : decide ((t144 == t145) = x18_47) = true := by simpa using c65))
                                      (try (have c65b2 : ((t144 == t145) == x18_47) = true := by simpa using c65))
                                      clear c65
                                      obtain rfl := Option.some.inj H
                                      go_wp2_with (first | ((with_reducible refine gate_callee (f := 17) rfl ?_); refine goesL_ (some 113) rfl rfl Try.func17 (by kernel_rfl) rfl #[.slice (some ⟨go41, 0, none⟩) y141.length co41] rfl (by (try simp only [List.map_toArray, List.map_cons, List.map_nil]); first | done | rfl | (simp only [List.length_drop, List.length_take]; rfl)) ?_; (with_reducible refine (inet_Fold.calls kj47 _ _ y141 t144 _ ?side1 ?side2 A58.out).mono ?_); (case side1 => repeat (first | exact (Kd.R_reads' HO_16.out).2.2 | (with_reducible refine Kd.C_alloc ?_ _) | (with_reducible refine Kd.C_drewN ?_ _) | (with_reducible refine Kd.C_drew ?_))); (case side2 => exact (Kd.R_reads' HO_16.out).2.1); rintro e w' ⟨rfl, ⟨nd, rfl⟩⟩; refine ⟨_, rfl, ?_⟩) | ((with_reducible refine gate_callee (f := 17) rfl ?_); refine goesL_ (some 115) rfl rfl Try.func17 (by kernel_rfl) rfl #[.slice (some ad142) y120.length co15] rfl (by (try simp only [List.map_toArray, List.map_cons, List.map_nil]); first | done | rfl | (simp only [List.length_drop, List.length_take]; rfl)) ?_; (with_reducible refine (inet_Fold.calls kj47 _ _ y120 t145 _ ?side1 ?side2 A59.out).mono ?_); (case side1 => repeat (first | exact (Kd.R_reads' HO_9.out).2.2 | (with_reducible refine Kd.C_alloc ?_ _) | (with_reducible refine Kd.C_drewN ?_ _) | (with_reducible refine Kd.C_drew ?_))); (case side2 => exact (Kd.R_reads' HO_9.out).2.1); rintro e w' ⟨rfl, ⟨nd, rfl⟩⟩; refine ⟨_, rfl, ?_⟩) | ((with_reducible refine gate_callee (f := 18) rfl ?_); refine goesL_ (some 117) rfl rfl Try.func18 (by kernel_rfl) rfl #[] rfl (by (try simp only [List.map_toArray, List.map_cons, List.map_nil]); first | done | rfl | (simp only [List.length_drop, List.length_take]; rfl)) ?_; (with_reducible refine (packthreadkeep_inetSure.calls kj47  true _ A60.out).mono ?_); rintro e w66 ⟨rfl, hb⟩; refine ⟨_, rfl, ?_⟩; have n0_ := Aside0.mk (Kd.R_below (by (with_reducible repeat (first | apply Kd.R_alloc | apply Kd.R_drewN | apply Kd.R_drew)); exact HO_9.out) hb); have n1_ := Aside0.mk (Kd.R_below (by (with_reducible repeat (first | apply Kd.R_alloc | apply Kd.R_drewN | apply Kd.R_drew)); exact HO_11.out) hb); have n2_ := Aside0.mk (Kd.R_below (by (with_reducible repeat (first | apply Kd.R_alloc | apply Kd.R_drewN | apply Kd.R_drew)); exact HO_16.out) hb); have n3_ := Aside0.mk (below_step (by repeat (first | (with_reducible first | exact HB.out | apply below_alloc | apply pw_below_drewN | apply below_drew1) | exact HB.out)) hb); clear HO_9; clear HO_11; clear HO_16; clear HB; have HO_9 := n0_; have HO_11 := n1_; have HO_16 := n2_; have HB := n3_; clear n0_ n1_ n2_ n3_; (try clear hb); (try clear hb2); (try clear hk); (try clear hi)) | (go_at_call 17; (with_reducible refine (inet_Fold.calls kj47 _ _ y120 t147 _ ?side1 ?side2 A62.out).mono ?_); (case side1 => repeat (first | exact (Kd.R_reads' HO_9.out).2.2 | (with_reducible refine Kd.C_alloc ?_ _) | (with_reducible refine Kd.C_drewN ?_ _) | (with_reducible refine Kd.C_drew ?_))); (case side2 => exact (Kd.R_reads' HO_9.out).2.1); rintro e w' ⟨rfl, ⟨nd, rfl⟩⟩; obtain ⟨Ao67, co67, eo67⟩ := Kd.R_slice HO_11.out; subst eo67) | (go_at_call 17; (with_reducible refine (inet_Fold.calls kj47 _ _ x11_1 t148 _ ?side1 ?side2 A63.out).mono ?_); (case side1 => repeat (first | exact (Kd.R_reads' HO_11.out).2.2 | (with_reducible refine Kd.C_alloc ?_ _) | (with_reducible refine Kd.C_drewN ?_ _) | (with_reducible refine Kd.C_drew ?_))); (case side2 => exact (Kd.R_reads' HO_11.out).2.1); rintro e w' ⟨rfl, ⟨nd, rfl⟩⟩))
                                      go_ret
                                      exact ⟨by first | rfl | (simp [errW_none, errW_some] <;> rfl) | (simp only [← hji7, ← hji38, ← hji42]; first | rfl | (simp [errW_none, errW_some] <;> rfl)) | (simp [*, errW_none, errW_some] <;> rfl), by repeat (first | (with_reducible first | exact HB.out | apply below_alloc | apply pw_below_drewN | apply below_drew1) | exact HB.out)⟩
                                    · rw [if_neg c65] at H
                                      have c65b0 : ((t144 == t145) == x18_47) = false := by simpa using c65
                                      (try (have c65b1 : decide ((t144 == t145) = x18_47) = false := by simpa using c65))
                                      (try (have c65b2 : ((t144 == t145) == x18_47) = false := by simpa using c65))
                                      (try (have c65b3 : ¬ ((t144 == t145) = x18_47) := by simpa using c65))
                                      clear c65
                                      by_cases c68 : x18_47 = true
                                      · subst c68
                                        have H1 : ((inet_Fold.f kj47 y120).bind fun t149 => ((inet_Fold.f kj47 y141).bind fun t150 => (some ((wrap64 (t149 * t150)) == 0)))) = some r := by rw [if_pos rfl] at H; exact H
                                        clear H
                                        have H := H1
                                        clear H1
                                        replace H := Option.bind_eq_some_iff.mp H
                                        obtain ⟨t149, A690, H⟩ := H
                                        replace H : ((inet_Fold.f kj47 y141).bind fun t150 => (some ((wrap64 (t149 * t150)) == 0))) = some r := H
                                        have A69 := Aside0.mk A690
                                        clear A690
                                        replace H := Option.bind_eq_some_iff.mp H
                                        obtain ⟨t150, A700, H⟩ := H
                                        replace H : (some ((wrap64 (t149 * t150)) == 0)) = some r := H
                                        have A70 := Aside0.mk A700
                                        clear A700
                                        obtain rfl := Option.some.inj H
                                        go_wp2_with (first | ((with_reducible refine gate_callee (f := 17) rfl ?_); refine goesL_ (some 113) rfl rfl Try.func17 (by kernel_rfl) rfl #[.slice (some ⟨go41, 0, none⟩) y141.length co41] rfl (by (try simp only [List.map_toArray, List.map_cons, List.map_nil]); first | done | rfl | (simp only [List.length_drop, List.length_take]; rfl)) ?_; (with_reducible refine (inet_Fold.calls kj47 _ _ y141 t144 _ ?side1 ?side2 A58.out).mono ?_); (case side1 => repeat (first | exact (Kd.R_reads' HO_16.out).2.2 | (with_reducible refine Kd.C_alloc ?_ _) | (with_reducible refine Kd.C_drewN ?_ _) | (with_reducible refine Kd.C_drew ?_))); (case side2 => exact (Kd.R_reads' HO_16.out).2.1); rintro e w' ⟨rfl, ⟨nd, rfl⟩⟩; refine ⟨_, rfl, ?_⟩) | ((with_reducible refine gate_callee (f := 17) rfl ?_); refine goesL_ (some 115) rfl rfl Try.func17 (by kernel_rfl) rfl #[.slice (some ad142) y120.length co15] rfl (by (try simp only [List.map_toArray, List.map_cons, List.map_nil]); first | done | rfl | (simp only [List.length_drop, List.length_take]; rfl)) ?_; (with_reducible refine (inet_Fold.calls kj47 _ _ y120 t145 _ ?side1 ?side2 A59.out).mono ?_); (case side1 => repeat (first | exact (Kd.R_reads' HO_9.out).2.2 | (with_reducible refine Kd.C_alloc ?_ _) | (with_reducible refine Kd.C_drewN ?_ _) | (with_reducible refine Kd.C_drew ?_))); (case side2 => exact (Kd.R_reads' HO_9.out).2.1); rintro e w' ⟨rfl, ⟨nd, rfl⟩⟩; refine ⟨_, rfl, ?_⟩) | ((with_reducible refine gate_callee (f := 18) rfl ?_); refine goesL_ (some 117) rfl rfl Try.func18 (by kernel_rfl) rfl #[] rfl (by (try simp only [List.map_toArray, List.map_cons, List.map_nil]); first | done | rfl | (simp only [List.length_drop, List.length_take]; rfl)) ?_; (with_reducible refine (packthreadkeep_inetSure.calls kj47  true _ A60.out).mono ?_); rintro e w71 ⟨rfl, hb⟩; refine ⟨_, rfl, ?_⟩; have n0_ := Aside0.mk (Kd.R_below (by (with_reducible repeat (first | apply Kd.R_alloc | apply Kd.R_drewN | apply Kd.R_drew)); exact HO_9.out) hb); have n1_ := Aside0.mk (Kd.R_below (by (with_reducible repeat (first | apply Kd.R_alloc | apply Kd.R_drewN | apply Kd.R_drew)); exact HO_11.out) hb); have n2_ := Aside0.mk (Kd.R_below (by (with_reducible repeat (first | apply Kd.R_alloc | apply Kd.R_drewN | apply Kd.R_drew)); exact HO_16.out) hb); have n3_ := Aside0.mk (below_step (by repeat (first | (with_reducible first | exact HB.out | apply below_alloc | apply pw_below_drewN | apply below_drew1) | exact HB.out)) hb); clear HO_9; clear HO_11; clear HO_16; clear HB; have HO_9 := n0_; have HO_11 := n1_; have HO_16 := n2_; have HB := n3_; clear n0_ n1_ n2_ n3_; (try clear hb); (try clear hb2); (try clear hk); (try clear hi)) | (go_at_call 17; (with_reducible refine (inet_Fold.calls kj47 _ _ y120 t147 _ ?side1 ?side2 A62.out).mono ?_); (case side1 => repeat (first | exact (Kd.R_reads' HO_9.out).2.2 | (with_reducible refine Kd.C_alloc ?_ _) | (with_reducible refine Kd.C_drewN ?_ _) | (with_reducible refine Kd.C_drew ?_))); (case side2 => exact (Kd.R_reads' HO_9.out).2.1); rintro e w' ⟨rfl, ⟨nd, rfl⟩⟩; obtain ⟨Ao72, co72, eo72⟩ := Kd.R_slice HO_11.out; subst eo72) | (go_at_call 17; (with_reducible refine (inet_Fold.calls kj47 _ _ x11_1 t148 _ ?side1 ?side2 A63.out).mono ?_); (case side1 => repeat (first | exact (Kd.R_reads' HO_11.out).2.2 | (with_reducible refine Kd.C_alloc ?_ _) | (with_reducible refine Kd.C_drewN ?_ _) | (with_reducible refine Kd.C_drew ?_))); (case side2 => exact (Kd.R_reads' HO_11.out).2.1); rintro e w' ⟨rfl, ⟨nd, rfl⟩⟩) | (go_at_call 17; (with_reducible refine (inet_Fold.calls kj47 _ _ y120 t149 _ ?side1 ?side2 A69.out).mono ?_); (case side1 => repeat (first | exact (Kd.R_reads' HO_9.out).2.2 | (with_reducible refine Kd.C_alloc ?_ _) | (with_reducible refine Kd.C_drewN ?_ _) | (with_reducible refine Kd.C_drew ?_))); (case side2 => exact (Kd.R_reads' HO_9.out).2.1); rintro e w' ⟨rfl, ⟨nd, rfl⟩⟩) | (go_at_call 17; (with_reducible refine (inet_Fold.calls kj47 _ _ y141 t150 _ ?side1 ?side2 A70.out).mono ?_); (case side1 => repeat (first | exact (Kd.R_reads' HO_16.out).2.2 | (with_reducible refine Kd.C_alloc ?_ _) | (with_reducible refine Kd.C_drewN ?_ _) | (with_reducible refine Kd.C_drew ?_))); (case side2 => exact (Kd.R_reads' HO_16.out).2.1); rintro e w' ⟨rfl, ⟨nd, rfl⟩⟩))
                                        go_ret
                                        exact ⟨by first | rfl | (simp [errW_none, errW_some] <;> rfl) | (simp only [← hji7, ← hji38, ← hji42]; first | rfl | (simp [errW_none, errW_some] <;> rfl)) | (simp [*, errW_none, errW_some] <;> rfl), by repeat (first | (with_reducible first | exact HB.out | apply below_alloc | apply pw_below_drewN | apply below_drew1) | exact HB.out)⟩
                                      · replace c68 := Bool.eq_false_iff.mpr c68
                                        subst c68
                                        have H1 : (some false) = some r := by rw [if_neg (show ¬ (false = true) by decide)] at H; exact H
                                        clear H
                                        have H := H1
                                        clear H1
                                        obtain rfl := Option.some.inj H
                                        go_wp2_with (first | ((with_reducible refine gate_callee (f := 17) rfl ?_); refine goesL_ (some 113) rfl rfl Try.func17 (by kernel_rfl) rfl #[.slice (some ⟨go41, 0, none⟩) y141.length co41] rfl (by (try simp only [List.map_toArray, List.map_cons, List.map_nil]); first | done | rfl | (simp only [List.length_drop, List.length_take]; rfl)) ?_; (with_reducible refine (inet_Fold.calls kj47 _ _ y141 t144 _ ?side1 ?side2 A58.out).mono ?_); (case side1 => repeat (first | exact (Kd.R_reads' HO_16.out).2.2 | (with_reducible refine Kd.C_alloc ?_ _) | (with_reducible refine Kd.C_drewN ?_ _) | (with_reducible refine Kd.C_drew ?_))); (case side2 => exact (Kd.R_reads' HO_16.out).2.1); rintro e w' ⟨rfl, ⟨nd, rfl⟩⟩; refine ⟨_, rfl, ?_⟩) | ((with_reducible refine gate_callee (f := 17) rfl ?_); refine goesL_ (some 115) rfl rfl Try.func17 (by kernel_rfl) rfl #[.slice (some ad142) y120.length co15] rfl (by (try simp only [List.map_toArray, List.map_cons, List.map_nil]); first | done | rfl | (simp only [List.length_drop, List.length_take]; rfl)) ?_; (with_reducible refine (inet_Fold.calls kj47 _ _ y120 t145 _ ?side1 ?side2 A59.out).mono ?_); (case side1 => repeat (first | exact (Kd.R_reads' HO_9.out).2.2 | (with_reducible refine Kd.C_alloc ?_ _) | (with_reducible refine Kd.C_drewN ?_ _) | (with_reducible refine Kd.C_drew ?_))); (case side2 => exact (Kd.R_reads' HO_9.out).2.1); rintro e w' ⟨rfl, ⟨nd, rfl⟩⟩; refine ⟨_, rfl, ?_⟩) | ((with_reducible refine gate_callee (f := 18) rfl ?_); refine goesL_ (some 117) rfl rfl Try.func18 (by kernel_rfl) rfl #[] rfl (by (try simp only [List.map_toArray, List.map_cons, List.map_nil]); first | done | rfl | (simp only [List.length_drop, List.length_take]; rfl)) ?_; (with_reducible refine (packthreadkeep_inetSure.calls kj47  true _ A60.out).mono ?_); rintro e w73 ⟨rfl, hb⟩; refine ⟨_, rfl, ?_⟩; have n0_ := Aside0.mk (Kd.R_below (by (with_reducible repeat (first | apply Kd.R_alloc | apply Kd.R_drewN | apply Kd.R_drew)); exact HO_9.out) hb); have n1_ := Aside0.mk (Kd.R_below (by (with_reducible repeat (first | apply Kd.R_alloc | apply Kd.R_drewN | apply Kd.R_drew)); exact HO_11.out) hb); have n2_ := Aside0.mk (Kd.R_below (by (with_reducible repeat (first | apply Kd.R_alloc | apply Kd.R_drewN | apply Kd.R_drew)); exact HO_16.out) hb); have n3_ := Aside0.mk (below_step (by repeat (first | (with_reducible first | exact HB.out | apply below_alloc | apply pw_below_drewN | apply below_drew1) | exact HB.out)) hb); clear HO_9; clear HO_11; clear HO_16; clear HB; have HO_9 := n0_; have HO_11 := n1_; have HO_16 := n2_; have HB := n3_; clear n0_ n1_ n2_ n3_; (try clear hb); (try clear hb2); (try clear hk); (try clear hi)) | (go_at_call 17; (with_reducible refine (inet_Fold.calls kj47 _ _ y120 t147 _ ?side1 ?side2 A62.out).mono ?_); (case side1 => repeat (first | exact (Kd.R_reads' HO_9.out).2.2 | (with_reducible refine Kd.C_alloc ?_ _) | (with_reducible refine Kd.C_drewN ?_ _) | (with_reducible refine Kd.C_drew ?_))); (case side2 => exact (Kd.R_reads' HO_9.out).2.1); rintro e w' ⟨rfl, ⟨nd, rfl⟩⟩; obtain ⟨Ao74, co74, eo74⟩ := Kd.R_slice HO_11.out; subst eo74) | (go_at_call 17; (with_reducible refine (inet_Fold.calls kj47 _ _ x11_1 t148 _ ?side1 ?side2 A63.out).mono ?_); (case side1 => repeat (first | exact (Kd.R_reads' HO_11.out).2.2 | (with_reducible refine Kd.C_alloc ?_ _) | (with_reducible refine Kd.C_drewN ?_ _) | (with_reducible refine Kd.C_drew ?_))); (case side2 => exact (Kd.R_reads' HO_11.out).2.1); rintro e w' ⟨rfl, ⟨nd, rfl⟩⟩))
                                        go_ret
                                        exact ⟨by first | rfl | (simp [errW_none, errW_some] <;> rfl) | (simp only [← hji7, ← hji38, ← hji42]; first | rfl | (simp [errW_none, errW_some] <;> rfl)) | (simp [*, errW_none, errW_some] <;> rfl), by repeat (first | (with_reducible first | exact HB.out | apply below_alloc | apply pw_below_drewN | apply below_drew1) | exact HB.out)⟩
                                  · rw [if_neg c64] at H
                                    have c64b0 : (t147 == t148) = false := beq_eq_false_iff_ne.mpr c64
                                    have c64b1 : (t147 != t148) = true := bne_iff_ne.mpr c64
                                    obtain rfl := Option.some.inj H
                                    go_wp2_with (first | ((with_reducible refine gate_callee (f := 17) rfl ?_); refine goesL_ (some 113) rfl rfl Try.func17 (by kernel_rfl) rfl #[.slice (some ⟨go41, 0, none⟩) y141.length co41] rfl (by (try simp only [List.map_toArray, List.map_cons, List.map_nil]); first | done | rfl | (simp only [List.length_drop, List.length_take]; rfl)) ?_; (with_reducible refine (inet_Fold.calls kj47 _ _ y141 t144 _ ?side1 ?side2 A58.out).mono ?_); (case side1 => repeat (first | exact (Kd.R_reads' HO_16.out).2.2 | (with_reducible refine Kd.C_alloc ?_ _) | (with_reducible refine Kd.C_drewN ?_ _) | (with_reducible refine Kd.C_drew ?_))); (case side2 => exact (Kd.R_reads' HO_16.out).2.1); rintro e w' ⟨rfl, ⟨nd, rfl⟩⟩; refine ⟨_, rfl, ?_⟩) | ((with_reducible refine gate_callee (f := 17) rfl ?_); refine goesL_ (some 115) rfl rfl Try.func17 (by kernel_rfl) rfl #[.slice (some ad142) y120.length co15] rfl (by (try simp only [List.map_toArray, List.map_cons, List.map_nil]); first | done | rfl | (simp only [List.length_drop, List.length_take]; rfl)) ?_; (with_reducible refine (inet_Fold.calls kj47 _ _ y120 t145 _ ?side1 ?side2 A59.out).mono ?_); (case side1 => repeat (first | exact (Kd.R_reads' HO_9.out).2.2 | (with_reducible refine Kd.C_alloc ?_ _) | (with_reducible refine Kd.C_drewN ?_ _) | (with_reducible refine Kd.C_drew ?_))); (case side2 => exact (Kd.R_reads' HO_9.out).2.1); rintro e w' ⟨rfl, ⟨nd, rfl⟩⟩; refine ⟨_, rfl, ?_⟩) | ((with_reducible refine gate_callee (f := 18) rfl ?_); refine goesL_ (some 117) rfl rfl Try.func18 (by kernel_rfl) rfl #[] rfl (by (try simp only [List.map_toArray, List.map_cons, List.map_nil]); first | done | rfl | (simp only [List.length_drop, List.length_take]; rfl)) ?_; (with_reducible refine (packthreadkeep_inetSure.calls kj47  true _ A60.out).mono ?_); rintro e w75 ⟨rfl, hb⟩; refine ⟨_, rfl, ?_⟩; have n0_ := Aside0.mk (Kd.R_below (by (with_reducible repeat (first | apply Kd.R_alloc | apply Kd.R_drewN | apply Kd.R_drew)); exact HO_9.out) hb); have n1_ := Aside0.mk (Kd.R_below (by (with_reducible repeat (first | apply Kd.R_alloc | apply Kd.R_drewN | apply Kd.R_drew)); exact HO_11.out) hb); have n2_ := Aside0.mk (Kd.R_below (by (with_reducible repeat (first | apply Kd.R_alloc | apply Kd.R_drewN | apply Kd.R_drew)); exact HO_16.out) hb); have n3_ := Aside0.mk (below_step (by repeat (first | (with_reducible first | exact HB.out | apply below_alloc | apply pw_below_drewN | apply below_drew1) | exact HB.out)) hb); clear HO_9; clear HO_11; clear HO_16; clear HB; have HO_9 := n0_; have HO_11 := n1_; have HO_16 := n2_; have HB := n3_; clear n0_ n1_ n2_ n3_; (try clear hb); (try clear hb2); (try clear hk); (try clear hi)) | (go_at_call 17; (with_reducible refine (inet_Fold.calls kj47 _ _ y120 t147 _ ?side1 ?side2 A62.out).mono ?_); (case side1 => repeat (first | exact (Kd.R_reads' HO_9.out).2.2 | (with_reducible refine Kd.C_alloc ?_ _) | (with_reducible refine Kd.C_drewN ?_ _) | (with_reducible refine Kd.C_drew ?_))); (case side2 => exact (Kd.R_reads' HO_9.out).2.1); rintro e w' ⟨rfl, ⟨nd, rfl⟩⟩; obtain ⟨Ao76, co76, eo76⟩ := Kd.R_slice HO_11.out; subst eo76) | (go_at_call 17; (with_reducible refine (inet_Fold.calls kj47 _ _ x11_1 t148 _ ?side1 ?side2 A63.out).mono ?_); (case side1 => repeat (first | exact (Kd.R_reads' HO_11.out).2.2 | (with_reducible refine Kd.C_alloc ?_ _) | (with_reducible refine Kd.C_drewN ?_ _) | (with_reducible refine Kd.C_drew ?_))); (case side2 => exact (Kd.R_reads' HO_11.out).2.1); rintro e w' ⟨rfl, ⟨nd, rfl⟩⟩))
                                    go_ret
                                    exact ⟨by first | rfl | (simp [errW_none, errW_some] <;> rfl) | (simp only [← hji7, ← hji38, ← hji42]; first | rfl | (simp [errW_none, errW_some] <;> rfl)) | (simp [*, errW_none, errW_some] <;> rfl), by repeat (first | (with_reducible first | exact HB.out | apply below_alloc | apply pw_below_drewN | apply below_drew1) | exact HB.out)⟩
                                · replace c61 := Bool.eq_false_iff.mpr c61
                                  subst c61
                                  have H1 : (some false) = some r := by rw [if_neg (show ¬ (false = true) by decide)] at H; exact H
                                  clear H
                                  have H := H1
                                  clear H1
                                  obtain rfl := Option.some.inj H
                                  go_wp2_with (first | ((with_reducible refine gate_callee (f := 17) rfl ?_); refine goesL_ (some 113) rfl rfl Try.func17 (by kernel_rfl) rfl #[.slice (some ⟨go41, 0, none⟩) y141.length co41] rfl (by (try simp only [List.map_toArray, List.map_cons, List.map_nil]); first | done | rfl | (simp only [List.length_drop, List.length_take]; rfl)) ?_; (with_reducible refine (inet_Fold.calls kj47 _ _ y141 t144 _ ?side1 ?side2 A58.out).mono ?_); (case side1 => repeat (first | exact (Kd.R_reads' HO_16.out).2.2 | (with_reducible refine Kd.C_alloc ?_ _) | (with_reducible refine Kd.C_drewN ?_ _) | (with_reducible refine Kd.C_drew ?_))); (case side2 => exact (Kd.R_reads' HO_16.out).2.1); rintro e w' ⟨rfl, ⟨nd, rfl⟩⟩; refine ⟨_, rfl, ?_⟩) | ((with_reducible refine gate_callee (f := 17) rfl ?_); refine goesL_ (some 115) rfl rfl Try.func17 (by kernel_rfl) rfl #[.slice (some ad142) y120.length co15] rfl (by (try simp only [List.map_toArray, List.map_cons, List.map_nil]); first | done | rfl | (simp only [List.length_drop, List.length_take]; rfl)) ?_; (with_reducible refine (inet_Fold.calls kj47 _ _ y120 t145 _ ?side1 ?side2 A59.out).mono ?_); (case side1 => repeat (first | exact (Kd.R_reads' HO_9.out).2.2 | (with_reducible refine Kd.C_alloc ?_ _) | (with_reducible refine Kd.C_drewN ?_ _) | (with_reducible refine Kd.C_drew ?_))); (case side2 => exact (Kd.R_reads' HO_9.out).2.1); rintro e w' ⟨rfl, ⟨nd, rfl⟩⟩; refine ⟨_, rfl, ?_⟩) | ((with_reducible refine gate_callee (f := 18) rfl ?_); refine goesL_ (some 117) rfl rfl Try.func18 (by kernel_rfl) rfl #[] rfl (by (try simp only [List.map_toArray, List.map_cons, List.map_nil]); first | done | rfl | (simp only [List.length_drop, List.length_take]; rfl)) ?_; (with_reducible refine (packthreadkeep_inetSure.calls kj47  false _ A60.out).mono ?_); rintro e w77 ⟨rfl, hb⟩; refine ⟨_, rfl, ?_⟩; have n0_ := Aside0.mk (Kd.R_below (by (with_reducible repeat (first | apply Kd.R_alloc | apply Kd.R_drewN | apply Kd.R_drew)); exact HO_9.out) hb); have n1_ := Aside0.mk (Kd.R_below (by (with_reducible repeat (first | apply Kd.R_alloc | apply Kd.R_drewN | apply Kd.R_drew)); exact HO_11.out) hb); have n2_ := Aside0.mk (Kd.R_below (by (with_reducible repeat (first | apply Kd.R_alloc | apply Kd.R_drewN | apply Kd.R_drew)); exact HO_16.out) hb); have n3_ := Aside0.mk (below_step (by repeat (first | (with_reducible first | exact HB.out | apply below_alloc | apply pw_below_drewN | apply below_drew1) | exact HB.out)) hb); clear HO_9; clear HO_11; clear HO_16; clear HB; have HO_9 := n0_; have HO_11 := n1_; have HO_16 := n2_; have HB := n3_; clear n0_ n1_ n2_ n3_; (try clear hb); (try clear hb2); (try clear hk); (try clear hi)))
                                  go_ret
                                  exact ⟨by first | rfl | (simp [errW_none, errW_some] <;> rfl) | (simp only [← hji7, ← hji38, ← hji42]; first | rfl | (simp [errW_none, errW_some] <;> rfl)) | (simp [*, errW_none, errW_some] <;> rfl), by repeat (first | (with_reducible first | exact HB.out | apply below_alloc | apply pw_below_drewN | apply below_drew1) | exact HB.out)⟩
                          · rw [if_neg c47] at H
                            exact absurd H (by simp)
                        · rw [if_neg c46] at H
                          exact absurd H (by simp)
                      · rw [if_neg c44] at H
                        exact absurd H (by simp)
                    · rw [if_neg c43] at H
                      exact absurd H (by simp)
                  · rw [if_neg c40] at H
                    exact absurd H (by simp)
                · rw [if_neg c39] at H
                  exact absurd H (by simp)
              · rw [if_neg c37] at H
                exact absurd H (by simp)
      · rw [if_neg c9] at H
        exact absurd H (by simp)
    · rw [if_neg c8] at H
      exact absurd H (by simp)
  · rw [if_neg c6] at H
    exact absurd H (by simp)

/-- THE ONE PURE STATEMENT of packthreadkeep_InetTurned: yours. -/
def packthreadkeep_InetTurned.Pure : Prop := ∀ (l0 : List Int) (a1 : Int) (a2 : Int) (a3 : Int), l0.length ≤ maxLen → l0.length * 1 ≤ 140737488351232 → (∀ x ∈ l0, (Lit.int .u8 x).wf = true) → (Lit.int .i64 a1).wf = true → (Lit.int .i64 a2).wf = true → (Lit.int .i64 a3).wf = true → ∃ k, packthreadkeep_InetTurned.f k l0 a1 a2 a3 = some true
theorem packthreadkeep_InetTurned.walk (P : packthreadkeep_InetTurned.Pure) (a0 : Option Addr) (len0 cap0 : Nat) (z0 : List Int) (a1 : Int) (a2 : Int) (a3 : Int) (w : World) (w0 : (a0 = none ∧ len0 = 0 ∧ cap0 = 0 ∧ z0 = []) ∨ ∃ x, a0 = some x ∧ len0 ≤ cap0 ∧ cap0 ≤ maxLen ∧ z0.length = cap0 ∧ (∀ i, i < z0.length → w.cell? (x.add i) = some (.int .u8 (z0.getD i 0))) ∧ ∀ n ∈ z0, (Lit.int .u8 n).wf = true) (y0 : len0 * 1 ≤ 140737488351232) (w1 : (Lit.int .i64 a1).wf = true) (w2 : (Lit.int .i64 a2).wf = true) (w3 : (Lit.int .i64 a3).wf = true) :
    Calls Try.prog 3 #[.slice a0 len0 cap0, .int .i64 a1, .int .i64 a2, .int .i64 a3] w fun e w' => e = .returned (.bool true) ∧ Below w.heap.size w w' := by
  obtain ⟨l0, rfl, hr0, hm0, hw0, hc0⟩ := ReadsInt.ofRowC w0
  obtain ⟨k, h⟩ := P l0 a1 a2 a3 hm0 y0 hw0 w1 w2 w3
  refine (packthreadkeep_InetTurned.calls k _ _ l0 a1 a2 a3 true w (Kd.C_of_reads (d := (0 : Int)) (h1 := fun _ => rfl) hr0) hc0 h).mono ?_
  rintro e w' ⟨rfl, hd⟩
  exact ⟨rfl, hd⟩

end Go.Proofs.Ytfckgffeoepaaaa.PInetTurned
