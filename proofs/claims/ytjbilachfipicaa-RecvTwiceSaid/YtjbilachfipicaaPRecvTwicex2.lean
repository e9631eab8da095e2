/- Printed by a program of this session (wip/myprint.py): Go functions of the law as Lean functions, and the proof that the code comes to these answers. -/
import Derived.Test.YtjbilachfipicaaPRecvTwicex0
namespace Go.Proofs.Ytjbilachfipicaa.PRecvTwice
open Go.RowKit Go.Proofs.YtjbilachfipicaaW.PrintWords Go.Proofs.YtjbilachfipicaaW.PrintLast Go.Proofs.YtjbilachfipicaaW.PrintMore
attribute [local go_sem] max2_int min2_int max_two min_two max_three min_three max_four min_four   -- for this text's walks alone
attribute [local go_sem] pn_setCell_drewN
set_option linter.unusedVariables false
set_option linter.unusedSimpArgs false

/-! ### packthreadkeep_Picked: function 14 -/
def packthreadkeep_Picked.f (a0 : Int) (a1 : Int) : Option (Int) := if a1 = 0 then (none) else (if (Int.tmod a0 a1) < 0 then (some (wrap64 ((Int.tmod a0 a1) + a1))) else (some (Int.tmod a0 a1)))
set_option maxHeartbeats 8000000 in
set_option maxRecDepth 100000 in
theorem packthreadkeep_Picked.calls (a0 : Int) (a1 : Int) (r : Int) (w : World) (h : packthreadkeep_Picked.f a0 a1 = some r) :
    Calls Try.prog 14 #[.int .i64 a0, .int .i64 a1] w fun e w' => e = .returned (.int .i64 r) ∧ Drawn0 w w' := by
  have H : (if a1 = 0 then (none) else (if (Int.tmod a0 a1) < 0 then (some (wrap64 ((Int.tmod a0 a1) + a1))) else (some (Int.tmod a0 a1)))) = some r := h
  clear h
  by_cases c3 : a1 = 0
  · rw [if_pos c3] at H
    exact absurd H (by simp)
  · rw [if_neg c3] at H
    have c3b0 : (a1 == 0) = false := beq_eq_false_iff_ne.mpr c3
    have c3b1 : (a1 != 0) = true := bne_iff_ne.mpr c3
    by_cases c4 : (Int.tmod a0 a1) < 0
    · rw [if_pos c4] at H
      have c4b0 : decide ((Int.tmod a0 a1) < 0) = true := decide_eq_true c4
      clear c4
      obtain rfl := Option.some.inj H
      go_enter Try.func14, Try.ntmps14
      go_wp2
      go_ret
      exact ⟨by first | rfl | (simp; done) | (simp [*]; done), by repeat (first | exact Drawn0.refl _ | apply Drawn0.step)⟩
    · rw [if_neg c4] at H
      have c4b0 : decide ((Int.tmod a0 a1) < 0) = false := decide_eq_false c4
      clear c4
      obtain rfl := Option.some.inj H
      go_enter Try.func14, Try.ntmps14
      go_wp2
      go_ret
      exact ⟨by first | rfl | (simp; done) | (simp [*]; done), by repeat (first | exact Drawn0.refl _ | apply Drawn0.step)⟩

/-! ### packthreadkeep_Stream: function 15 -/
def packthreadkeep_Stream.l0 : Nat → Int → Int → List Int → Int → Option (List Int)
  | 0, _, _, _, _ => none
  | k + 1, x0, x1, x5, x6 => if x6 < x1 then ((packthreadkeep_Picked.f x0 251).bind fun t101 => (if x5.length < 140737488355328 then (packthreadkeep_Stream.l0 k x0 x1 (x5 ++ [(wrap64 ((wrap64 (t101 + (wrap64 (x6 * 7)))) + (wrap64 (Int.tdiv x6 36)))) % 256]) (wrap64 (x6 + 1))) else (none))) else (some x5)
def packthreadkeep_Stream.f (k : Nat) (a0 : Int) (a1 : Int) : Option (List Int) := packthreadkeep_Stream.l0 k a0 a1 ([] : List Int) 0
theorem packthreadkeep_Stream.mono_l : ∀ k, (∀ y0 y1 y2 y3, LeO (packthreadkeep_Stream.l0 k y0 y1 y2 y3) (packthreadkeep_Stream.l0 (k + 1) y0 y1 y2 y3))
  | 0 => fun _ _ _ _ r h => by simp [packthreadkeep_Stream.l0] at h
  | k + 1 => by
    have ih0 := packthreadkeep_Stream.mono_l k
    · intro y0 y1 y2 y3
      unfold packthreadkeep_Stream.l0
      repeat' first
      | (with_reducible exact ih0 _ _ _ _)
      | (with_reducible exact LeO.refl _)
      | (with_reducible exact LeO.none _)
      | (with_reducible refine LeO.ite ?_ ?_)
      | (with_reducible refine LeO.bind ?_ (fun _ => ?_))
      | exact ih0 _ _ _ _
      | exact LeO.none _
      | refine LeO.ite ?_ ?_
      | refine LeO.bind ?_ (fun _ => ?_)
theorem packthreadkeep_Stream.mono : ∀ a0 a1 k, LeO (packthreadkeep_Stream.f k a0 a1) (packthreadkeep_Stream.f (k + 1) a0 a1) := by
  intro a0 a1 k
  have ih0 := packthreadkeep_Stream.mono_l k
  unfold packthreadkeep_Stream.f
  repeat' first
      | (with_reducible exact ih0 _ _ _ _)
      | (with_reducible exact LeO.refl _)
      | (with_reducible exact LeO.none _)
      | (with_reducible refine LeO.ite ?_ ?_)
      | (with_reducible refine LeO.bind ?_ (fun _ => ?_))
      | exact ih0 _ _ _ _
      | exact LeO.none _
      | refine LeO.ite ?_ ?_
      | refine LeO.bind ?_ (fun _ => ?_)
set_option maxHeartbeats 8000000 in
set_option maxRecDepth 100000 in
theorem packthreadkeep_Stream.calls (k : Nat) (a0 : Int) (a1 : Int) (r : List Int) (w : World) (h : packthreadkeep_Stream.f k a0 a1 = some r) :
    Calls Try.prog 15 #[.int .i64 a0, .int .i64 a1] w fun e w' => ∃ v0_ : Value, e = .returned (v0_) ∧ Kd.R (Kd.int .u8) 5 w' w.heap.size (fun _ => True) v0_ r ∧ Below w.heap.size w w' := by
  have HB := Aside0.mk (Below.refl w.heap.size w)
  have H : (packthreadkeep_Stream.l0 k a0 a1 ([] : List Int) 0) = some r := h
  clear h
  have H' := Aside0.mk H
  clear H
  go_enter Try.func15, Try.ntmps15
  go_wp2
  go_loopg [5, 6] k (fun kq v5 v6 w' => ∃ (x5_1 : List Int) (x6_1 : Int), v6 = .int .i64 x6_1 ∧ Aside0 (packthreadkeep_Stream.l0 kq a0 a1 x5_1 x6_1 = some r) ∧ Aside0 (kq ≤ k) ∧ Aside0 (Kd.R (Kd.int .u8) 5 w' w.heap.size (fun _ => True) v5 x5_1) ∧ Aside0 (Below w.heap.size w w'))
  case atStart => exact ⟨(([] : List Int)), (0), (by first | rfl | (simp; done) | (simp [*]; done)), H', ⟨Nat.le_refl _⟩, ⟨by first | exact Kd.R_nil _ _ _ _ _ | exact Kd.N_nil _ _ _ _ _ | exact Kd.V_nil _ _ _ _ _ | exact Kd.Q_nil _ _ _ _ _ | exact Kd.S_nil _ _ _ _ _⟩, ⟨by repeat (first | (with_reducible first | exact HB.out | apply below_alloc | apply pw_below_drewN | apply below_drew1) | exact HB.out)⟩⟩
  case round =>
    clear H'
    try clear c1
    try clear p2
    obtain ⟨x5_1, x6_1, rfl, HA, HK1, HO_5, HB⟩ := hrel
    cases gk with
    | zero => exact absurd HA.out (by simp [packthreadkeep_Stream.l0])
    | succ k1 =>
      have H := HA.out
      clear HA
      simp only [packthreadkeep_Stream.l0] at H
      by_cases c3 : x6_1 < a1
      · rw [if_pos c3] at H
        have c3b0 : decide (x6_1 < a1) = true := decide_eq_true c3
        clear c3
        replace H := Option.bind_eq_some_iff.mp H
        obtain ⟨t101, A40, H⟩ := H
        replace H : (if x5_1.length < 140737488355328 then (packthreadkeep_Stream.l0 k1 a0 a1 (x5_1 ++ [(wrap64 ((wrap64 (t101 + (wrap64 (x6_1 * 7)))) + (wrap64 (Int.tdiv x6_1 36)))) % 256]) (wrap64 (x6_1 + 1))) else (none)) = some r := H
        have A4 := Aside0.mk A40
        clear A40
        by_cases c5 : x5_1.length < 140737488355328
        · rw [if_pos c5] at H
          have LMc5 := Aside0.mk c5
          clear c5
          obtain ⟨y102, hy102⟩ : ∃ y_ : List Int, y_ = (x5_1 ++ [(wrap64 ((wrap64 (t101 + (wrap64 (x6_1 * 7)))) + (wrap64 (Int.tdiv x6_1 36)))) % 256]) := ⟨_, rfl⟩
          replace H : (packthreadkeep_Stream.l0 k1 a0 a1 y102 (wrap64 (x6_1 + 1))) = some r := by first | (rw [hy102]; with_reducible exact H) | (have H2_ := (Option.bind_some _ _).symm.trans H; rw [hy102]; with_reducible exact H2_) | (have H2_ := (Option.bind_some _ _).symm.trans H; with_reducible exact H2_) | with_reducible exact H | (rw [hy102]; exact H) | exact H
          have Ny102 := Aside0.mk hy102
          clear hy102
          have H' := Aside0.mk H
          clear H
          go_wp2_with (first | ((with_reducible refine gate_callee (f := 14) rfl ?_); refine goesL_ (some 14) rfl rfl Try.func14 (by kernel_rfl) rfl #[.int .i64 a0, .int .i64 251] rfl (by (try simp only [List.map_toArray, List.map_cons, List.map_nil]); first | done | rfl | (simp only [List.length_drop, List.length_take]; rfl)) ?_; (with_reducible refine (packthreadkeep_Picked.calls a0 251 t101 _ A4.out).mono ?_); rintro e w' ⟨rfl, ⟨nd, rfl⟩⟩; refine ⟨_, rfl, ?_⟩) | ((with_reducible refine gate_builtin (b := .append) (xs := #[.tmp 12, .tmp 22]) rfl ?_); at_builtin; refine Kd.R_append (Kd.int .u8) (w0 := w) w.heap.size rfl (.tmp 12) (.tmp 22) 24 5 (.int .u8 0) 1 rfl Try.underlying24 info5 rfl (by decide) (by omega) u5 x5_1 ((wrap64 ((wrap64 (t101 + (wrap64 (x6_1 * 7)))) + (wrap64 (Int.tdiv x6_1 36)))) % 256) [.int .u8 ((wrap64 ((wrap64 (t101 + (wrap64 (x6_1 * 7)))) + (wrap64 (Int.tdiv x6_1 36)))) % 256)] (fun _ => True) (fun _ => False) rfl rfl ?aP (fun _ hk => hk.elim) ?aF ?aO ?aB ?aS ?aL ?_; (case aP => exact rfl); (case aB => exact (by repeat (first | (with_reducible first | exact HB.out | apply below_alloc | apply pw_below_drewN | apply below_drew1) | exact HB.out))); (case aF => exact (fun _ _ => trivial)); (case aO => exact (by (with_reducible repeat (first | apply Kd.R_alloc | apply Kd.R_drewN | apply Kd.R_drew)); exact HO_5.out)); (case aS => exact (below_size (by repeat (first | (with_reducible first | exact HB.out | apply below_alloc | apply pw_below_drewN | apply below_drew1) | exact HB.out)))); (case aL => have := LMc5.out; omega); intro v103 w6 ho hb hg hat; rw [← Ny102.out] at ho; have n0_ := Aside0.mk (hb); have n1_ := Aside0.mk (ho); clear HB; clear HO_5; have HB := n0_; have HO104 := n1_; clear n0_ n1_; clear ho hb hg hat))
          go_roundg k1
          case measure => have := HK1.out; omega
          case rel => exact ⟨(y102), (wrap64 (x6_1 + 1)), (by first | rfl | (simp; done) | (simp [*]; done)), H', ⟨by have := HK1.out; omega⟩, ⟨by (with_reducible repeat (first | apply Kd.R_alloc | apply Kd.R_drewN | apply Kd.R_drew)); exact HO104.out⟩, ⟨by repeat (first | (with_reducible first | exact HB.out | apply below_alloc | apply pw_below_drewN | apply below_drew1) | exact HB.out)⟩⟩
        · rw [if_neg c5] at H
          exact absurd H (by simp)
      · rw [if_neg c3] at H
        have c3b0 : decide (x6_1 < a1) = false := decide_eq_false c3
        clear c3
        obtain rfl := Option.some.inj H
        go_wp2
        go_ret
        exact ⟨_, by first | rfl | (simp [errW_none, errW_some] <;> rfl) | (simp [*, errW_none, errW_some] <;> rfl), by (with_reducible repeat (first | apply Kd.R_alloc | apply Kd.R_drewN | apply Kd.R_drew)); exact HO_5.out, by repeat (first | (with_reducible first | exact HB.out | apply below_alloc | apply pw_below_drewN | apply below_drew1) | exact HB.out)⟩

/-! ### packthreadkeep_Arrivals: function 16 -/
mutual
def packthreadkeep_Arrivals.l0 : Nat → List Int → List Int → Int → Bool → List (S38) → Int → Option ((List (S38)))
  | 0, _, _, _, _, _, _ => none
  | k + 1, x0, x1, x2, x3, x9, x10 => if x10 < (x0.length : Int) then (packthreadkeep_Arrivals.j1 k x0 x1 x2 x3 x9 x10 (decide (x10 < x2))) else (packthreadkeep_Arrivals.j1 k x0 x1 x2 x3 x9 x10 false)
def packthreadkeep_Arrivals.j1 : Nat → List Int → List Int → Int → Bool → List (S38) → Int → Bool → Option ((List (S38)))
  | 0, _, _, _, _, _, _, _ => none
  | k + 1, x0, x1, x2, x3, x9, x10, x21 => if x21 = true then (if 0 ≤ x10 then (if x10 < (x0.length : Int) then ((packthreadkeep_Picked.f (rd x0 x10) 5).bind fun t106 => (if t106 = 0 then ((packthreadkeep_Picked.f (wrap64 (Int.tdiv (rd x0 x10) 5)) 60).bind fun t108 => (if x9.length < 2513169434916 then (packthreadkeep_Arrivals.l0 k x0 x1 x2 x3 (x9 ++ [(⟨2, 0, ([] : List Int), false, t108⟩ : S38)]) (wrap64 (x10 + 1))) else (none))) else ((packthreadkeep_Picked.f (wrap64 (Int.tdiv (rd x0 x10) 5)) (wrap64 ((x1.length : Int) + 1))).bind fun t113 => ((packthreadkeep_Picked.f (wrap64 (Int.tdiv (rd x0 x10) 1000)) 64).bind fun t115 => (if 0 ≤ t113 then (if t113 ≤ (mn (x1.length : Int) (wrap64 ((wrap64 (t113 + 1)) + t115))) then (if (mn (x1.length : Int) (wrap64 ((wrap64 (t113 + 1)) + t115))) ≤ (x1.length : Int) then (if ([] : List Int).length + ((x1.take ((mn (x1.length : Int) (wrap64 ((wrap64 (t113 + 1)) + t115))) : Int).toNat).drop (t113 : Int).toNat).length < 140737488355328 then ((some (([] : List Int) ++ ((x1.take ((mn (x1.length : Int) (wrap64 ((wrap64 (t113 + 1)) + t115))) : Int).toNat).drop (t113 : Int).toNat) : List Int)).bind fun y117 => (if x3 = true then (if x9.length < 2513169434916 then (packthreadkeep_Arrivals.l0 k x0 x1 x2 x3 (x9 ++ [(⟨1, t113, y117, ((mn (x1.length : Int) (wrap64 ((wrap64 (t113 + 1)) + t115))) == (x1.length : Int)), 0⟩ : S38)]) (wrap64 (x10 + 1))) else (none)) else (if x9.length < 2513169434916 then (packthreadkeep_Arrivals.l0 k x0 x1 x2 x3 (x9 ++ [(⟨1, t113, y117, false, 0⟩ : S38)]) (wrap64 (x10 + 1))) else (none)))) else (none)) else (none)) else (none)) else (none)))))) else (none)) else (none)) else (some x9)
end
def packthreadkeep_Arrivals.f (k : Nat) (l0 : List Int) (l1 : List Int) (a2 : Int) (a3 : Bool) : Option ((List (S38))) := packthreadkeep_Arrivals.l0 k l0 l1 a2 a3 ([] : List (S38)) 0
theorem packthreadkeep_Arrivals.mono_l : ∀ k, (∀ y0 y1 y2 y3 y4 y5, LeO (packthreadkeep_Arrivals.l0 k y0 y1 y2 y3 y4 y5) (packthreadkeep_Arrivals.l0 (k + 1) y0 y1 y2 y3 y4 y5)) ∧ (∀ y0 y1 y2 y3 y4 y5 y6, LeO (packthreadkeep_Arrivals.j1 k y0 y1 y2 y3 y4 y5 y6) (packthreadkeep_Arrivals.j1 (k + 1) y0 y1 y2 y3 y4 y5 y6))
  | 0 => ⟨fun _ _ _ _ _ _ r h => by simp [packthreadkeep_Arrivals.l0] at h, fun _ _ _ _ _ _ _ r h => by simp [packthreadkeep_Arrivals.j1] at h⟩
  | k + 1 => by
    obtain ⟨ih0, ih1⟩ := packthreadkeep_Arrivals.mono_l k
    refine ⟨?_, ?_⟩
    · intro y0 y1 y2 y3 y4 y5
      unfold packthreadkeep_Arrivals.l0
      repeat' first
      | (with_reducible exact ih0 _ _ _ _ _ _)
      | (with_reducible exact ih1 _ _ _ _ _ _ _)
      | (with_reducible exact LeO.refl _)
      | (with_reducible exact LeO.none _)
      | (with_reducible refine LeO.ite ?_ ?_)
      | (with_reducible refine LeO.bind ?_ (fun _ => ?_))
      | exact ih0 _ _ _ _ _ _
      | exact ih1 _ _ _ _ _ _ _
      | exact LeO.none _
      | refine LeO.ite ?_ ?_
      | refine LeO.bind ?_ (fun _ => ?_)
    · intro y0 y1 y2 y3 y4 y5 y6
      unfold packthreadkeep_Arrivals.j1
      repeat' first
      | (with_reducible exact ih0 _ _ _ _ _ _)
      | (with_reducible exact ih1 _ _ _ _ _ _ _)
      | (with_reducible exact LeO.refl _)
      | (with_reducible exact LeO.none _)
      | (with_reducible refine LeO.ite ?_ ?_)
      | (with_reducible refine LeO.bind ?_ (fun _ => ?_))
      | exact ih0 _ _ _ _ _ _
      | exact ih1 _ _ _ _ _ _ _
      | exact LeO.none _
      | refine LeO.ite ?_ ?_
      | refine LeO.bind ?_ (fun _ => ?_)
theorem packthreadkeep_Arrivals.mono : ∀ a0 a1 a2 a3 k, LeO (packthreadkeep_Arrivals.f k a0 a1 a2 a3) (packthreadkeep_Arrivals.f (k + 1) a0 a1 a2 a3) := by
  intro a0 a1 a2 a3 k
  obtain ⟨ih0, ih1⟩ := packthreadkeep_Arrivals.mono_l k
  unfold packthreadkeep_Arrivals.f
  repeat' first
      | (with_reducible exact ih0 _ _ _ _ _ _)
      | (with_reducible exact ih1 _ _ _ _ _ _ _)
      | (with_reducible exact LeO.refl _)
      | (with_reducible exact LeO.none _)
      | (with_reducible refine LeO.ite ?_ ?_)
      | (with_reducible refine LeO.bind ?_ (fun _ => ?_))
      | exact ih0 _ _ _ _ _ _
      | exact ih1 _ _ _ _ _ _ _
      | exact LeO.none _
      | refine LeO.ite ?_ ?_
      | refine LeO.bind ?_ (fun _ => ?_)
set_option maxHeartbeats 8000000 in
set_option maxRecDepth 100000 in
theorem packthreadkeep_Arrivals.calls (k : Nat) (A0 : Option Addr) (c0 : Nat) (l0 : List Int) (A1 : Option Addr) (c1 : Nat) (l1 : List Int) (a2 : Int) (a3 : Bool) (r : List (S38)) (w : World) (hr0 : Kd.C (Kd.int .i64) w A0 l0.length l0) (hc0 : l0.length ≤ c0) (hr1 : Kd.C (Kd.int .u8) w A1 l1.length l1) (hc1 : l1.length ≤ c1) (h : packthreadkeep_Arrivals.f k l0 l1 a2 a3 = some r) :
    Calls Try.prog 16 #[.slice A0 l0.length c0, .slice A1 l1.length c1, .int .i64 a2, .bool a3] w fun e w' => ∃ v0_ : Value, e = .returned (v0_) ∧ Kd.S k38 38 w' w.heap.size (fun _ => True) v0_ r ∧ Below w.heap.size w w' := by
  have hu38 := Try.underlying38
  have HR0 := Aside0.mk hr0
  have HC0 := Aside0.mk hc0
  clear hr0 hc0
  have HR1 := Aside0.mk hr1
  have HC1 := Aside0.mk hc1
  clear hr1 hc1
  have HB := Aside0.mk (Below.refl w.heap.size w)
  have H : (packthreadkeep_Arrivals.l0 k l0 l1 a2 a3 ([] : List (S38)) 0) = some r := h
  clear h
  have H' := Aside0.mk H
  clear H
  go_enter Try.func16, Try.ntmps16
  go_wp2
  go_loopg [9, 10] k (fun kq v9 v10 w' => ∃ (x9_1 : List (S38)) (x10_1 : Int), v10 = .int .i64 x10_1 ∧ Aside0 (packthreadkeep_Arrivals.l0 kq l0 l1 a2 a3 x9_1 x10_1 = some r) ∧ Aside0 (kq ≤ k) ∧ Aside0 (Kd.S k38 38 w' w.heap.size (fun _ => True) v9 x9_1) ∧ Aside0 (Below w.heap.size w w'))
  case atStart => exact ⟨(([] : List (S38))), (0), (by first | rfl | (simp; done) | (simp [*]; done)), H', ⟨Nat.le_refl _⟩, ⟨by first | exact Kd.S_nil _ _ _ _ _ | exact Kd.N_nil _ _ _ _ _ | exact Kd.V_nil _ _ _ _ _ | exact Kd.Q_nil _ _ _ _ _ | exact Kd.R_nil _ _ _ _ _⟩, ⟨by repeat (first | (with_reducible first | exact HB.out | apply below_alloc | apply pw_below_drewN | apply below_drew1) | exact HB.out)⟩⟩
  case round =>
    clear H'
    try clear c1
    try clear p2
    obtain ⟨x9_1, x10_1, rfl, HA, HK1, HO_9, HB⟩ := hrel
    cases gk with
    | zero => exact absurd HA.out (by simp [packthreadkeep_Arrivals.l0])
    | succ k1 =>
      have H := HA.out
      clear HA
      simp only [packthreadkeep_Arrivals.l0] at H
      have HC5 := Aside0.mk H
      clear H
      go_upto_region 3 with (fail)
      go_cut [21] (fun v21 wc => ∃ (kq : Nat) (x21_4 : Bool), v21 = .bool x21_4 ∧ Aside0 (packthreadkeep_Arrivals.j1 kq l0 l1 a2 a3 x9_1 x10_1 x21_4 = some r) ∧ Aside0 (kq ≤ k1) ∧ Aside0 (Kd.S k38 38 wc w.heap.size (fun _ => True) u9 x9_1) ∧ Aside0 (Below w.heap.size w wc))
      case first =>
        have H := HC5.out
        clear HC5
        by_cases c6 : x10_1 < (l0.length : Int)
        · rw [if_pos c6] at H
          have c6b0 : decide (x10_1 < (l0.length : Int)) = true := decide_eq_true c6
          clear c6
          (first | rw [c6b0] | (simp only [i64_w, i32_w]; rw [c6b0]) | rw [c6b1] | skip)
          have H' := Aside0.mk H
          clear H
          go_wp2
          go_meet
          case rel => exact ⟨_, (decide (x10_1 < a2)), (by first | rfl | (simp; done) | (simp [*]; done)), H', ⟨by have := HK1.out; first | omega | exact Nat.le_refl _⟩, ⟨by (with_reducible repeat (first | apply Kd.S_alloc | apply Kd.S_drewN | apply Kd.S_drew)); exact HO_9.out⟩, ⟨by repeat (first | (with_reducible first | exact HB.out | apply below_alloc | apply pw_below_drewN | apply below_drew1) | exact HB.out)⟩⟩
        · rw [if_neg c6] at H
          have c6b0 : decide (x10_1 < (l0.length : Int)) = false := decide_eq_false c6
          clear c6
          (first | rw [c6b0] | (simp only [i64_w, i32_w]; rw [c6b0]) | rw [c6b1] | skip)
          have H' := Aside0.mk H
          clear H
          go_wp2
          go_meet
          case rel => exact ⟨_, (false), (by first | rfl | (simp; done) | (simp [*]; done)), H', ⟨by have := HK1.out; first | omega | exact Nat.le_refl _⟩, ⟨by (with_reducible repeat (first | apply Kd.S_alloc | apply Kd.S_drewN | apply Kd.S_drew)); exact HO_9.out⟩, ⟨by repeat (first | (with_reducible first | exact HB.out | apply below_alloc | apply pw_below_drewN | apply below_drew1) | exact HB.out)⟩⟩
      case rest =>
        clear HC5
        try clear c1
        try clear p2
        try clear c6
        try clear c6b0
        try clear c6b1
        try clear p2
        obtain ⟨kq, x21_4, rfl, HA, HJ4, HO_9, HB⟩ := hcut
        cases kq with
        | zero => exact absurd HA.out (by simp [packthreadkeep_Arrivals.j1])
        | succ kj4 =>
          have H := HA.out
          clear HA
          simp only [packthreadkeep_Arrivals.j1] at H
          by_cases c7 : x21_4 = true
          · subst c7
            have H1 : (if 0 ≤ x10_1 then (if x10_1 < (l0.length : Int) then ((packthreadkeep_Picked.f (rd l0 x10_1) 5).bind fun t106 => (if t106 = 0 then ((packthreadkeep_Picked.f (wrap64 (Int.tdiv (rd l0 x10_1) 5)) 60).bind fun t108 => (if x9_1.length < 2513169434916 then (packthreadkeep_Arrivals.l0 kj4 l0 l1 a2 a3 (x9_1 ++ [(⟨2, 0, ([] : List Int), false, t108⟩ : S38)]) (wrap64 (x10_1 + 1))) else (none))) else ((packthreadkeep_Picked.f (wrap64 (Int.tdiv (rd l0 x10_1) 5)) (wrap64 ((l1.length : Int) + 1))).bind fun t113 => ((packthreadkeep_Picked.f (wrap64 (Int.tdiv (rd l0 x10_1) 1000)) 64).bind fun t115 => (if 0 ≤ t113 then (if t113 ≤ (mn (l1.length : Int) (wrap64 ((wrap64 (t113 + 1)) + t115))) then (if (mn (l1.length : Int) (wrap64 ((wrap64 (t113 + 1)) + t115))) ≤ (l1.length : Int) then (if ([] : List Int).length + ((l1.take ((mn (l1.length : Int) (wrap64 ((wrap64 (t113 + 1)) + t115))) : Int).toNat).drop (t113 : Int).toNat).length < 140737488355328 then ((some (([] : List Int) ++ ((l1.take ((mn (l1.length : Int) (wrap64 ((wrap64 (t113 + 1)) + t115))) : Int).toNat).drop (t113 : Int).toNat) : List Int)).bind fun y117 => (if a3 = true then (if x9_1.length < 2513169434916 then (packthreadkeep_Arrivals.l0 kj4 l0 l1 a2 a3 (x9_1 ++ [(⟨1, t113, y117, ((mn (l1.length : Int) (wrap64 ((wrap64 (t113 + 1)) + t115))) == (l1.length : Int)), 0⟩ : S38)]) (wrap64 (x10_1 + 1))) else (none)) else (if x9_1.length < 2513169434916 then (packthreadkeep_Arrivals.l0 kj4 l0 l1 a2 a3 (x9_1 ++ [(⟨1, t113, y117, false, 0⟩ : S38)]) (wrap64 (x10_1 + 1))) else (none)))) else (none)) else (none)) else (none)) else (none)))))) else (none)) else (none)) = some r := by rw [if_pos rfl] at H; exact H
            clear H
            have H := H1
            clear H1
            by_cases c8 : 0 ≤ x10_1
            · rw [if_pos c8] at H
              have c8b0 : decide (0 ≤ x10_1) = true := decide_eq_true c8
              clear c8
              by_cases c9 : x10_1 < (l0.length : Int)
              · rw [if_pos c9] at H
                have c9b0 : decide (x10_1 < (l0.length : Int)) = true := decide_eq_true c9
                clear c9
                replace H := Option.bind_eq_some_iff.mp H
                obtain ⟨t106, A100, H⟩ := H
                replace H : (if t106 = 0 then ((packthreadkeep_Picked.f (wrap64 (Int.tdiv (rd l0 x10_1) 5)) 60).bind fun t108 => (if x9_1.length < 2513169434916 then (packthreadkeep_Arrivals.l0 kj4 l0 l1 a2 a3 (x9_1 ++ [(⟨2, 0, ([] : List Int), false, t108⟩ : S38)]) (wrap64 (x10_1 + 1))) else (none))) else ((packthreadkeep_Picked.f (wrap64 (Int.tdiv (rd l0 x10_1) 5)) (wrap64 ((l1.length : Int) + 1))).bind fun t113 => ((packthreadkeep_Picked.f (wrap64 (Int.tdiv (rd l0 x10_1) 1000)) 64).bind fun t115 => (if 0 ≤ t113 then (if t113 ≤ (mn (l1.length : Int) (wrap64 ((wrap64 (t113 + 1)) + t115))) then (if (mn (l1.length : Int) (wrap64 ((wrap64 (t113 + 1)) + t115))) ≤ (l1.length : Int) then (if ([] : List Int).length + ((l1.take ((mn (l1.length : Int) (wrap64 ((wrap64 (t113 + 1)) + t115))) : Int).toNat).drop (t113 : Int).toNat).length < 140737488355328 then ((some (([] : List Int) ++ ((l1.take ((mn (l1.length : Int) (wrap64 ((wrap64 (t113 + 1)) + t115))) : Int).toNat).drop (t113 : Int).toNat) : List Int)).bind fun y117 => (if a3 = true then (if x9_1.length < 2513169434916 then (packthreadkeep_Arrivals.l0 kj4 l0 l1 a2 a3 (x9_1 ++ [(⟨1, t113, y117, ((mn (l1.length : Int) (wrap64 ((wrap64 (t113 + 1)) + t115))) == (l1.length : Int)), 0⟩ : S38)]) (wrap64 (x10_1 + 1))) else (none)) else (if x9_1.length < 2513169434916 then (packthreadkeep_Arrivals.l0 kj4 l0 l1 a2 a3 (x9_1 ++ [(⟨1, t113, y117, false, 0⟩ : S38)]) (wrap64 (x10_1 + 1))) else (none)))) else (none)) else (none)) else (none)) else (none))))) = some r := H
                have A10 := Aside0.mk A100
                clear A100
                by_cases c11 : t106 = 0
                · rw [if_pos c11] at H
                  have c11b0 : (t106 == 0) = true := beq_iff_eq.mpr c11
                  have c11b1 : (t106 != 0) = false := bne_eq_false_iff_eq.mpr c11
                  clear c11
                  replace H := Option.bind_eq_some_iff.mp H
                  obtain ⟨t108, A120, H⟩ := H
                  replace H : (if x9_1.length < 2513169434916 then (packthreadkeep_Arrivals.l0 kj4 l0 l1 a2 a3 (x9_1 ++ [(⟨2, 0, ([] : List Int), false, t108⟩ : S38)]) (wrap64 (x10_1 + 1))) else (none)) = some r := H
                  have A12 := Aside0.mk A120
                  clear A120
                  by_cases c13 : x9_1.length < 2513169434916
                  · rw [if_pos c13] at H
                    have LMc13 := Aside0.mk c13
                    clear c13
                    obtain ⟨y109, hy109⟩ : ∃ y_ : List (S38), y_ = (x9_1 ++ [(⟨2, 0, ([] : List Int), false, t108⟩ : S38)]) := ⟨_, rfl⟩
                    replace H : (packthreadkeep_Arrivals.l0 kj4 l0 l1 a2 a3 y109 (wrap64 (x10_1 + 1))) = some r := by first | (rw [hy109]; with_reducible exact H) | (have H2_ := (Option.bind_some _ _).symm.trans H; rw [hy109]; with_reducible exact H2_) | (have H2_ := (Option.bind_some _ _).symm.trans H; with_reducible exact H2_) | with_reducible exact H | (rw [hy109]; exact H) | exact H
                    have Ny109 := Aside0.mk hy109
                    clear hy109
                    have H' := Aside0.mk H
                    clear H
                    have p105 : 0 ≤ (x10_1 : Int) := of_decide_eq_true (by first | (with_reducible assumption) | assumption)
                    have q105 : x10_1 < (l0.length : Int) := of_decide_eq_true (by first | (with_reducible assumption) | assumption)
                    obtain ⟨ad105, e105, hx105_0⟩ := Kd.at_int HR0.out x10_1 p105 q105
                    cases e105
                    replace hx105_0 := (HB.out.cell (World.block_lt_of_cell? w _ hx105_0)).trans hx105_0
                    replace p105 := eq_true p105
                    replace q105 := eq_true q105
                    go_wp2_with (first | ((with_reducible refine gate_callee (f := 14) rfl ?_); refine goesL_ (some 28) rfl rfl Try.func14 (by kernel_rfl) rfl #[.int .i64 (rd l0 x10_1), .int .i64 5] rfl (by (try simp only [List.map_toArray, List.map_cons, List.map_nil]); first | done | rfl | (simp only [List.length_drop, List.length_take]; rfl)) ?_; (with_reducible refine (packthreadkeep_Picked.calls (rd l0 x10_1) 5 t106 _ A10.out).mono ?_); rintro e w' ⟨rfl, ⟨nd, rfl⟩⟩; refine ⟨_, rfl, ?_⟩; have p107 : 0 ≤ (x10_1 : Int) := of_decide_eq_true (by first | (with_reducible assumption) | assumption); have q107 : x10_1 < (l0.length : Int) := of_decide_eq_true (by first | (with_reducible assumption) | assumption); obtain ⟨ad107, e107, hx107_0⟩ := Kd.at_int HR0.out x10_1 p107 q107; obtain rfl : ad105 = ad107 := (by injection e107); replace hx107_0 := (HB.out.cell (World.block_lt_of_cell? w _ hx107_0)).trans hx107_0; replace p107 := eq_true p107; replace q107 := eq_true q107) | ((with_reducible refine gate_callee (f := 14) rfl ?_); refine goesL_ (some 36) rfl rfl Try.func14 (by kernel_rfl) rfl #[.int .i64 (wrap64 (Int.tdiv (rd l0 x10_1) 5)), .int .i64 60] rfl (by (try simp only [List.map_toArray, List.map_cons, List.map_nil]); first | done | rfl | (simp only [List.length_drop, List.length_take]; rfl)) ?_; (with_reducible refine (packthreadkeep_Picked.calls (wrap64 (Int.tdiv (rd l0 x10_1) 5)) 60 t108 _ A12.out).mono ?_); rintro e w' ⟨rfl, ⟨nd, rfl⟩⟩; refine ⟨_, rfl, ?_⟩) | ((with_reducible refine gate_builtin (b := .append) (xs := #[.tmp 30, .tmp 38]) rfl ?_); (try (refine gate_guard (by rfl) ?_; dsimp only)); at_builtin; refine Kd.S_append k38 (w0 := w) w.heap.size rfl (.tmp 30) (.tmp 38) 26 38 (.agg #[(.int .i64 0), (.int .i64 0), (.slice none 0 0), (.bool false), (.int .i64 0)]) 56 rfl Try.underlying26 info38 rfl (by decide) (by omega) u9 x9_1 (⟨2, 0, ([] : List Int), false, t108⟩ : S38) [.int .i64 2, .int .i64 0, .slice none 0 0, .bool false, .int .i64 t108] (fun _ => True) (fun _ => False) rfl rfl ?aP (fun k_ hk_ => hk_.elim) ?aF ?aO ?aB ?aS ?aL ?_; (case aP => exact k38_mkM _ _ _ (⟨2, 0, ([] : List Int), false, t108⟩ : S38) (Kd.R_nil _ _ _ _ _)); (case aB => exact (by repeat (first | (with_reducible first | exact HB.out | apply below_alloc | apply pw_below_drewN | apply below_drew1) | exact HB.out))); (case aF => exact (fun _ _ => trivial)); (case aO => exact (by (with_reducible repeat (first | apply Kd.S_alloc | apply Kd.S_drewN | apply Kd.S_drew)); exact Kd.S_mono HO_9.out (fun k_ hk => ⟨trivial, fun e_ => e_⟩))); (case aS => exact (below_size (by repeat (first | (with_reducible first | exact HB.out | apply below_alloc | apply pw_below_drewN | apply below_drew1) | exact HB.out)))); (case aL => have := LMc13.out; omega); intro v110 w14 ho hb hg hat; rw [← Ny109.out] at ho; have n0_ := Aside0.mk (hb); have n1_ := Aside0.mk (ho); clear HB; clear HO_9; have HB := n0_; have HO111 := n1_; clear n0_ n1_; clear ho hb hg hat))
                    go_roundg kj4
                    case measure => have := HK1.out; have := HJ4.out; omega
                    case rel => exact ⟨(y109), (wrap64 (x10_1 + 1)), (by first | rfl | (simp; done) | (simp [*]; done)), H', ⟨by have := HK1.out; have := HJ4.out; omega⟩, ⟨by (with_reducible repeat (first | apply Kd.S_alloc | apply Kd.S_drewN | apply Kd.S_drew)); exact HO111.out⟩, ⟨by repeat (first | (with_reducible first | exact HB.out | apply below_alloc | apply pw_below_drewN | apply below_drew1) | exact HB.out)⟩⟩
                  · rw [if_neg c13] at H
                    exact absurd H (by simp)
                · rw [if_neg c11] at H
                  have c11b0 : (t106 == 0) = false := beq_eq_false_iff_ne.mpr c11
                  have c11b1 : (t106 != 0) = true := bne_iff_ne.mpr c11
                  replace H := Option.bind_eq_some_iff.mp H
                  obtain ⟨t113, A150, H⟩ := H
                  replace H : ((packthreadkeep_Picked.f (wrap64 (Int.tdiv (rd l0 x10_1) 1000)) 64).bind fun t115 => (if 0 ≤ t113 then (if t113 ≤ (mn (l1.length : Int) (wrap64 ((wrap64 (t113 + 1)) + t115))) then (if (mn (l1.length : Int) (wrap64 ((wrap64 (t113 + 1)) + t115))) ≤ (l1.length : Int) then (if ([] : List Int).length + ((l1.take ((mn (l1.length : Int) (wrap64 ((wrap64 (t113 + 1)) + t115))) : Int).toNat).drop (t113 : Int).toNat).length < 140737488355328 then ((some (([] : List Int) ++ ((l1.take ((mn (l1.length : Int) (wrap64 ((wrap64 (t113 + 1)) + t115))) : Int).toNat).drop (t113 : Int).toNat) : List Int)).bind fun y117 => (if a3 = true then (if x9_1.length < 2513169434916 then (packthreadkeep_Arrivals.l0 kj4 l0 l1 a2 a3 (x9_1 ++ [(⟨1, t113, y117, ((mn (l1.length : Int) (wrap64 ((wrap64 (t113 + 1)) + t115))) == (l1.length : Int)), 0⟩ : S38)]) (wrap64 (x10_1 + 1))) else (none)) else (if x9_1.length < 2513169434916 then (packthreadkeep_Arrivals.l0 kj4 l0 l1 a2 a3 (x9_1 ++ [(⟨1, t113, y117, false, 0⟩ : S38)]) (wrap64 (x10_1 + 1))) else (none)))) else (none)) else (none)) else (none)) else (none))) = some r := H
                  have A15 := Aside0.mk A150
                  clear A150
                  replace H := Option.bind_eq_some_iff.mp H
                  obtain ⟨t115, A160, H⟩ := H
                  replace H : (if 0 ≤ t113 then (if t113 ≤ (mn (l1.length : Int) (wrap64 ((wrap64 (t113 + 1)) + t115))) then (if (mn (l1.length : Int) (wrap64 ((wrap64 (t113 + 1)) + t115))) ≤ (l1.length : Int) then (if ([] : List Int).length + ((l1.take ((mn (l1.length : Int) (wrap64 ((wrap64 (t113 + 1)) + t115))) : Int).toNat).drop (t113 : Int).toNat).length < 140737488355328 then ((some (([] : List Int) ++ ((l1.take ((mn (l1.length : Int) (wrap64 ((wrap64 (t113 + 1)) + t115))) : Int).toNat).drop (t113 : Int).toNat) : List Int)).bind fun y117 => (if a3 = true then (if x9_1.length < 2513169434916 then (packthreadkeep_Arrivals.l0 kj4 l0 l1 a2 a3 (x9_1 ++ [(⟨1, t113, y117, ((mn (l1.length : Int) (wrap64 ((wrap64 (t113 + 1)) + t115))) == (l1.length : Int)), 0⟩ : S38)]) (wrap64 (x10_1 + 1))) else (none)) else (if x9_1.length < 2513169434916 then (packthreadkeep_Arrivals.l0 kj4 l0 l1 a2 a3 (x9_1 ++ [(⟨1, t113, y117, false, 0⟩ : S38)]) (wrap64 (x10_1 + 1))) else (none)))) else (none)) else (none)) else (none)) else (none)) = some r := H
                  have A16 := Aside0.mk A160
                  clear A160
                  obtain ⟨ji17, hji17⟩ : ∃ j_ : Int, (mn (l1.length : Int) (wrap64 ((wrap64 (t113 + 1)) + t115))) = j_ := ⟨_, rfl⟩
                  replace H : (if 0 ≤ t113 then (if t113 ≤ (ji17) then (if (ji17) ≤ (l1.length : Int) then (if ([] : List Int).length + ((l1.take ((ji17) : Int).toNat).drop (t113 : Int).toNat).length < 140737488355328 then ((some (([] : List Int) ++ ((l1.take ((ji17) : Int).toNat).drop (t113 : Int).toNat) : List Int)).bind fun y117 => (if a3 = true then (if x9_1.length < 2513169434916 then (packthreadkeep_Arrivals.l0 kj4 l0 l1 a2 a3 (x9_1 ++ [(⟨1, t113, y117, ((ji17) == (l1.length : Int)), 0⟩ : S38)]) (wrap64 (x10_1 + 1))) else (none)) else (if x9_1.length < 2513169434916 then (packthreadkeep_Arrivals.l0 kj4 l0 l1 a2 a3 (x9_1 ++ [(⟨1, t113, y117, false, 0⟩ : S38)]) (wrap64 (x10_1 + 1))) else (none)))) else (none)) else (none)) else (none)) else (none)) = some r := by first | (rw [hji17] at H; exact H) | (simp only [hji17] at H ⊢; exact H)
                  (try rw [hji17] at A10)
                  (try rw [hji17] at A15)
                  (try rw [hji17] at A16)
                  have hji17_ : (if (wrap64 ((wrap64 (t113 + 1)) + t115)) < (l1.length : Int) then (wrap64 ((wrap64 (t113 + 1)) + t115)) else (l1.length : Int)) = ji17 := hji17
                  by_cases c18 : 0 ≤ t113
                  · rw [if_pos c18] at H
                    have c18b0 := eq_true c18
                    have c18b1 : decide (0 ≤ t113) = true := decide_eq_true c18
                    clear c18
                    by_cases c19 : t113 ≤ (ji17)
                    · rw [if_pos c19] at H
                      have c19b0 := eq_true c19
                      have c19b1 : decide (t113 ≤ (ji17)) = true := decide_eq_true c19
                      clear c19
                      by_cases c20 : (ji17) ≤ (l1.length : Int)
                      · rw [if_pos c20] at H
                        have c20b0 := eq_true c20
                        have c20b1 : decide ((ji17) ≤ (l1.length : Int)) = true := decide_eq_true c20
                        clear c20
                        by_cases c21 : ([] : List Int).length + ((l1.take ((ji17) : Int).toNat).drop (t113 : Int).toNat).length < 140737488355328
                        · rw [if_pos c21] at H
                          have LMc21 := Aside0.mk c21
                          clear c21
                          obtain ⟨y117, hy117⟩ : ∃ y_ : List Int, y_ = (([] : List Int) ++ ((l1.take ((ji17) : Int).toNat).drop (t113 : Int).toNat)) := ⟨_, rfl⟩
                          replace H : (if a3 = true then (if x9_1.length < 2513169434916 then (packthreadkeep_Arrivals.l0 kj4 l0 l1 a2 a3 (x9_1 ++ [(⟨1, t113, y117, ((ji17) == (l1.length : Int)), 0⟩ : S38)]) (wrap64 (x10_1 + 1))) else (none)) else (if x9_1.length < 2513169434916 then (packthreadkeep_Arrivals.l0 kj4 l0 l1 a2 a3 (x9_1 ++ [(⟨1, t113, y117, false, 0⟩ : S38)]) (wrap64 (x10_1 + 1))) else (none))) = some r := by first | (rw [hy117]; with_reducible exact H) | (have H2_ := (Option.bind_some _ _).symm.trans H; rw [hy117]; with_reducible exact H2_) | (have H2_ := (Option.bind_some _ _).symm.trans H; with_reducible exact H2_) | with_reducible exact H | (rw [hy117]; exact H) | exact H
                          have Ny117 := Aside0.mk hy117
                          clear hy117
                          by_cases c22 : a3 = true
                          · subst c22
                            have H1 : (if x9_1.length < 2513169434916 then (packthreadkeep_Arrivals.l0 kj4 l0 l1 a2 true (x9_1 ++ [(⟨1, t113, y117, ((ji17) == (l1.length : Int)), 0⟩ : S38)]) (wrap64 (x10_1 + 1))) else (none)) = some r := by rw [if_pos rfl] at H; exact H
                            clear H
                            have H := H1
                            clear H1
                            by_cases c23 : x9_1.length < 2513169434916
                            · rw [if_pos c23] at H
                              have LMc23 := Aside0.mk c23
                              clear c23
                              obtain ⟨y120, hy120⟩ : ∃ y_ : List (S38), y_ = (x9_1 ++ [(⟨1, t113, y117, ((ji17) == (l1.length : Int)), 0⟩ : S38)]) := ⟨_, rfl⟩
                              replace H : (packthreadkeep_Arrivals.l0 kj4 l0 l1 a2 true y120 (wrap64 (x10_1 + 1))) = some r := by first | (rw [hy120]; with_reducible exact H) | (have H2_ := (Option.bind_some _ _).symm.trans H; rw [hy120]; with_reducible exact H2_) | (have H2_ := (Option.bind_some _ _).symm.trans H; with_reducible exact H2_) | with_reducible exact H | (rw [hy120]; exact H) | exact H
                              have Ny120 := Aside0.mk hy120
                              clear hy120
                              have H' := Aside0.mk H
                              clear H
                              have p105 : 0 ≤ (x10_1 : Int) := of_decide_eq_true (by first | (with_reducible assumption) | assumption)
                              have q105 : x10_1 < (l0.length : Int) := of_decide_eq_true (by first | (with_reducible assumption) | assumption)
                              obtain ⟨ad105, e105, hx105_0⟩ := Kd.at_int HR0.out x10_1 p105 q105
                              cases e105
                              replace hx105_0 := (HB.out.cell (World.block_lt_of_cell? w _ hx105_0)).trans hx105_0
                              replace p105 := eq_true p105
                              replace q105 := eq_true q105
                              go_wp2_with (first | ((with_reducible refine gate_callee (f := 14) rfl ?_); refine goesL_ (some 28) rfl rfl Try.func14 (by kernel_rfl) rfl #[.int .i64 (rd l0 x10_1), .int .i64 5] rfl (by (try simp only [List.map_toArray, List.map_cons, List.map_nil]); first | done | rfl | (simp only [List.length_drop, List.length_take]; rfl)) ?_; (with_reducible refine (packthreadkeep_Picked.calls (rd l0 x10_1) 5 t106 _ A10.out).mono ?_); rintro e w' ⟨rfl, ⟨nd, rfl⟩⟩; refine ⟨_, rfl, ?_⟩; have p112 : 0 ≤ (x10_1 : Int) := of_decide_eq_true (by first | (with_reducible assumption) | assumption); have q112 : x10_1 < (l0.length : Int) := of_decide_eq_true (by first | (with_reducible assumption) | assumption); obtain ⟨ad112, e112, hx112_0⟩ := Kd.at_int HR0.out x10_1 p112 q112; obtain rfl : ad105 = ad112 := (by injection e112); replace hx112_0 := (HB.out.cell (World.block_lt_of_cell? w _ hx112_0)).trans hx112_0; replace p112 := eq_true p112; replace q112 := eq_true q112) | ((with_reducible refine gate_callee (f := 14) rfl ?_); refine goesL_ (some 48) rfl rfl Try.func14 (by kernel_rfl) rfl #[.int .i64 (wrap64 (Int.tdiv (rd l0 x10_1) 5)), .int .i64 (wrap64 ((l1.length : Int) + 1))] rfl (by (try simp only [List.map_toArray, List.map_cons, List.map_nil]); first | done | rfl | (simp only [List.length_drop, List.length_take]; rfl)) ?_; (with_reducible refine (packthreadkeep_Picked.calls (wrap64 (Int.tdiv (rd l0 x10_1) 5)) (wrap64 ((l1.length : Int) + 1)) t113 _ A15.out).mono ?_); rintro e w' ⟨rfl, ⟨nd, rfl⟩⟩; refine ⟨_, rfl, ?_⟩; have p114 : 0 ≤ (x10_1 : Int) := of_decide_eq_true (by first | (with_reducible assumption) | assumption); have q114 : x10_1 < (l0.length : Int) := of_decide_eq_true (by first | (with_reducible assumption) | assumption); obtain ⟨ad114, e114, hx114_0⟩ := Kd.at_int HR0.out x10_1 p114 q114; obtain rfl : ad105 = ad114 := (by injection e114); replace hx114_0 := (HB.out.cell (World.block_lt_of_cell? w _ hx114_0)).trans hx114_0; replace p114 := eq_true p114; replace q114 := eq_true q114) | ((with_reducible refine gate_callee (f := 14) rfl ?_); refine goesL_ (some 58) rfl rfl Try.func14 (by kernel_rfl) rfl #[.int .i64 (wrap64 (Int.tdiv (rd l0 x10_1) 1000)), .int .i64 64] rfl (by (try simp only [List.map_toArray, List.map_cons, List.map_nil]); first | done | rfl | (simp only [List.length_drop, List.length_take]; rfl)) ?_; (with_reducible refine (packthreadkeep_Picked.calls (wrap64 (Int.tdiv (rd l0 x10_1) 1000)) 64 t115 _ A16.out).mono ?_); rintro e w' ⟨rfl, ⟨nd, rfl⟩⟩; refine ⟨_, rfl, ?_⟩; obtain ⟨i024, hi024, _, hsz24, _⟩ := info_parts info5; obtain ⟨A24, hcut24, hA24, hC24⟩ := print_mid_of (P := Try.prog) (Value.int .u8) 0 24 5 .i64 .i64 Try.underlying24 hi024 hsz24 A1 c1 l1 t113 (ji17) (of_decide_eq_true (by first | (with_reducible assumption) | assumption)) (by first | omega | exact of_decide_eq_true (by first | (with_reducible assumption) | assumption)) (of_decide_eq_true (by first | (with_reducible assumption) | assumption)) HC1.out; have HR116 := Aside0.mk (Kd.C_of_reads (h1 := fun _ => rfl) (hA24 _ (Kd.reads_of_C HR1.out))); have HC116 := Aside0.mk hC24; clear hA24 hC24 hi024 hsz24) | ((with_reducible refine gate_builtin (b := .append) (xs := #[.const (.slice none 0 0), .tmp 66]) rfl ?_); (try (refine gate_guard (by rfl) ?_; dsimp only)); at_builtin; refine Kd.R_append_rows (Kd.int .u8) (w0 := w) w.heap.size rfl (.const (.slice none 0 0)) (.tmp 66) 24 5 (.int .u8 0) 1 rfl Try.underlying24 info5 rfl (by decide) (by omega) (.slice none 0 0) ([] : List Int) ((l1.take ((ji17) : Int).toNat).drop (t113 : Int).toNat) _ _ _ (fun _ => True) (fun _ => False) rfl rfl ?aO ?aR (fun _ _ h => h) (fun _ h => h.elim) ?aF ?aB ?aS ?aL ?_; (case aR => first | (refine rr_len_ (show ((l1.take ((ji17) : Int).toNat).drop (t113 : Int).toNat).length = ((ji17).toNat - t113.toNat) from (by rw [List.length_drop, List.length_take]; have h_ : ((ji17) : Int) ≤ (l1.length : Int) := of_decide_eq_true (by first | (with_reducible assumption) | assumption); omega)) ?_; repeat (first | exact (Kd.C_below HR116.out (by repeat (first | (with_reducible first | exact HB.out | apply below_alloc | apply pw_below_drewN | apply below_drew1) | exact HB.out))) | (with_reducible refine Kd.C_alloc ?_ _) | (with_reducible refine Kd.C_drewN ?_ _) | (with_reducible refine Kd.C_drew ?_))) | (rw [← show ((l1.take ((ji17) : Int).toNat).drop (t113 : Int).toNat).length = ((ji17).toNat - t113.toNat) from (by rw [List.length_drop, List.length_take]; have h_ : ((ji17) : Int) ≤ (l1.length : Int) := of_decide_eq_true (by first | (with_reducible assumption) | assumption); omega)]; repeat (first | exact (Kd.C_below HR116.out (by repeat (first | (with_reducible first | exact HB.out | apply below_alloc | apply pw_below_drewN | apply below_drew1) | exact HB.out))) | (with_reducible refine Kd.C_alloc ?_ _) | (with_reducible refine Kd.C_drewN ?_ _) | (with_reducible refine Kd.C_drew ?_))) | (repeat (first | exact (Kd.C_below HR116.out (by repeat (first | (with_reducible first | exact HB.out | apply below_alloc | apply pw_below_drewN | apply below_drew1) | exact HB.out))) | (with_reducible refine Kd.C_alloc ?_ _) | (with_reducible refine Kd.C_drewN ?_ _) | (with_reducible refine Kd.C_drew ?_)))); (case aB => exact (by repeat (first | (with_reducible first | exact HB.out | apply below_alloc | apply pw_below_drewN | apply below_drew1) | exact HB.out))); (case aF => exact (fun _ _ => trivial)); (case aO => exact ((Kd.R_nil _ _ _ _ (fun _ => True)))); (case aS => exact (below_size (by repeat (first | (with_reducible first | exact HB.out | apply below_alloc | apply pw_below_drewN | apply below_drew1) | exact HB.out)))); (case aL => have := LMc21.out; have hlx_ := (show ((l1.take ((ji17) : Int).toNat).drop (t113 : Int).toNat).length = ((ji17).toNat - t113.toNat) from (by rw [List.length_drop, List.length_take]; have h_ : ((ji17) : Int) ≤ (l1.length : Int) := of_decide_eq_true (by first | (with_reducible assumption) | assumption); omega)); omega); intro v118 w25 ho hb hg hat; rw [← Ny117.out] at ho; have n0_ := Aside0.mk (Kd.S_after (Kd.S_apart_nil (by (with_reducible repeat (first | apply Kd.S_alloc | apply Kd.S_drewN | apply Kd.S_drew)); exact HO_9.out)) hg hat); have n1_ := Aside0.mk (hb); have n2_ := Aside0.mk (ho); clear HO_9; clear HB; have HO_9 := n0_; have HB := n1_; have HO119 := n2_; clear n0_ n1_ n2_; clear ho hb hg hat; obtain ⟨Ao26, co26, eo26⟩ := Kd.R_slice HO119.out; subst eo26) | ((with_reducible refine gate_builtin (b := .append) (xs := #[.tmp 61, .tmp 76]) rfl ?_); (try (refine gate_guard (by rfl) ?_; dsimp only)); at_builtin; refine Kd.S_append k38 (w0 := w) w.heap.size rfl (.tmp 61) (.tmp 76) 26 38 (.agg #[(.int .i64 0), (.int .i64 0), (.slice none 0 0), (.bool false), (.int .i64 0)]) 56 rfl Try.underlying26 info38 rfl (by decide) (by omega) u9 x9_1 (⟨1, t113, y117, ((ji17) == (l1.length : Int)), 0⟩ : S38) [.int .i64 1, .int .i64 t113, .slice Ao26 y117.length co26, .bool ((ji17) == (l1.length : Int)), .int .i64 0] (fun _ => True) (fun k_ => some k_ = (.slice Ao26 y117.length co26 : Value).ownBlock) rfl rfl ?aP (fun k_ hk_ => ((Kd.R_mono (ok' := fun k_ => ((fun _ => True)) k_ ∧ some k_ ≠ (u9 : Value).ownBlock) (Kd.R_apart' (HO119.out) (Kd.S_typed HO_9.out) (by decide)) (fun k_ hk => ⟨trivial, hk.2⟩))).1 k_ hk_.symm) ?aF ?aO ?aB ?aS ?aL ?_; (case aP => exact k38_mkM _ _ _ (⟨1, t113, y117, ((ji17) == (l1.length : Int)), 0⟩ : S38) (Kd.R_mono (Kd.R_tight rfl (Kd.R_mono (ok' := fun k_ => ((fun _ => True)) k_ ∧ some k_ ≠ (u9 : Value).ownBlock) (Kd.R_apart' (HO119.out) (Kd.S_typed HO_9.out) (by decide)) (fun k_ hk => ⟨trivial, hk.2⟩))) (fun _ h_ => h_))); (case aB => exact (by repeat (first | (with_reducible first | exact HB.out | apply below_alloc | apply pw_below_drewN | apply below_drew1) | exact HB.out))); (case aF => exact (fun _ _ => trivial)); (case aO => exact (by (with_reducible repeat (first | apply Kd.S_alloc | apply Kd.S_drewN | apply Kd.S_drew)); exact Kd.S_mono HO_9.out (fun k_ hk => ⟨trivial, fun e_ => hk.2 e_⟩))); (case aS => exact (below_size (by repeat (first | (with_reducible first | exact HB.out | apply below_alloc | apply pw_below_drewN | apply below_drew1) | exact HB.out)))); (case aL => have := LMc23.out; omega); intro v121 w27 ho hb hg hat; rw [← Ny120.out] at ho; have n0_ := Aside0.mk (hb); have n1_ := Aside0.mk (ho); clear HB; clear HO_9; clear HO119; have HB := n0_; have HO122 := n1_; clear n0_ n1_; clear ho hb hg hat))
                              go_roundg kj4
                              case measure => have := HK1.out; have := HJ4.out; omega
                              case rel => exact ⟨(y120), (wrap64 (x10_1 + 1)), (by first | rfl | (simp; done) | (simp [*]; done)), H', ⟨by have := HK1.out; have := HJ4.out; omega⟩, ⟨by (with_reducible repeat (first | apply Kd.S_alloc | apply Kd.S_drewN | apply Kd.S_drew)); exact HO122.out⟩, ⟨by repeat (first | (with_reducible first | exact HB.out | apply below_alloc | apply pw_below_drewN | apply below_drew1) | exact HB.out)⟩⟩
                            · rw [if_neg c23] at H
                              exact absurd H (by simp)
                          · replace c22 := Bool.eq_false_iff.mpr c22
                            subst c22
                            have H1 : (if x9_1.length < 2513169434916 then (packthreadkeep_Arrivals.l0 kj4 l0 l1 a2 false (x9_1 ++ [(⟨1, t113, y117, false, 0⟩ : S38)]) (wrap64 (x10_1 + 1))) else (none)) = some r := by rw [if_neg (show ¬ (false = true) by decide)] at H; exact H
                            clear H
                            have H := H1
                            clear H1
                            by_cases c28 : x9_1.length < 2513169434916
                            · rw [if_pos c28] at H
                              have LMc28 := Aside0.mk c28
                              clear c28
                              obtain ⟨y123, hy123⟩ : ∃ y_ : List (S38), y_ = (x9_1 ++ [(⟨1, t113, y117, false, 0⟩ : S38)]) := ⟨_, rfl⟩
                              replace H : (packthreadkeep_Arrivals.l0 kj4 l0 l1 a2 false y123 (wrap64 (x10_1 + 1))) = some r := by first | (rw [hy123]; with_reducible exact H) | (have H2_ := (Option.bind_some _ _).symm.trans H; rw [hy123]; with_reducible exact H2_) | (have H2_ := (Option.bind_some _ _).symm.trans H; with_reducible exact H2_) | with_reducible exact H | (rw [hy123]; exact H) | exact H
                              have Ny123 := Aside0.mk hy123
                              clear hy123
                              have H' := Aside0.mk H
                              clear H
                              have p105 : 0 ≤ (x10_1 : Int) := of_decide_eq_true (by first | (with_reducible assumption) | assumption)
                              have q105 : x10_1 < (l0.length : Int) := of_decide_eq_true (by first | (with_reducible assumption) | assumption)
                              obtain ⟨ad105, e105, hx105_0⟩ := Kd.at_int HR0.out x10_1 p105 q105
                              cases e105
                              replace hx105_0 := (HB.out.cell (World.block_lt_of_cell? w _ hx105_0)).trans hx105_0
                              replace p105 := eq_true p105
                              replace q105 := eq_true q105
                              go_wp2_with (first | ((with_reducible refine gate_callee (f := 14) rfl ?_); refine goesL_ (some 28) rfl rfl Try.func14 (by kernel_rfl) rfl #[.int .i64 (rd l0 x10_1), .int .i64 5] rfl (by (try simp only [List.map_toArray, List.map_cons, List.map_nil]); first | done | rfl | (simp only [List.length_drop, List.length_take]; rfl)) ?_; (with_reducible refine (packthreadkeep_Picked.calls (rd l0 x10_1) 5 t106 _ A10.out).mono ?_); rintro e w' ⟨rfl, ⟨nd, rfl⟩⟩; refine ⟨_, rfl, ?_⟩; have p112 : 0 ≤ (x10_1 : Int) := of_decide_eq_true (by first | (with_reducible assumption) | assumption); have q112 : x10_1 < (l0.length : Int) := of_decide_eq_true (by first | (with_reducible assumption) | assumption); obtain ⟨ad112, e112, hx112_0⟩ := Kd.at_int HR0.out x10_1 p112 q112; obtain rfl : ad105 = ad112 := (by injection e112); replace hx112_0 := (HB.out.cell (World.block_lt_of_cell? w _ hx112_0)).trans hx112_0; replace p112 := eq_true p112; replace q112 := eq_true q112) | ((with_reducible refine gate_callee (f := 14) rfl ?_); refine goesL_ (some 48) rfl rfl Try.func14 (by kernel_rfl) rfl #[.int .i64 (wrap64 (Int.tdiv (rd l0 x10_1) 5)), .int .i64 (wrap64 ((l1.length : Int) + 1))] rfl (by (try simp only [List.map_toArray, List.map_cons, List.map_nil]); first | done | rfl | (simp only [List.length_drop, List.length_take]; rfl)) ?_; (with_reducible refine (packthreadkeep_Picked.calls (wrap64 (Int.tdiv (rd l0 x10_1) 5)) (wrap64 ((l1.length : Int) + 1)) t113 _ A15.out).mono ?_); rintro e w' ⟨rfl, ⟨nd, rfl⟩⟩; refine ⟨_, rfl, ?_⟩; have p114 : 0 ≤ (x10_1 : Int) := of_decide_eq_true (by first | (with_reducible assumption) | assumption); have q114 : x10_1 < (l0.length : Int) := of_decide_eq_true (by first | (with_reducible assumption) | assumption); obtain ⟨ad114, e114, hx114_0⟩ := Kd.at_int HR0.out x10_1 p114 q114; obtain rfl : ad105 = ad114 := (by injection e114); replace hx114_0 := (HB.out.cell (World.block_lt_of_cell? w _ hx114_0)).trans hx114_0; replace p114 := eq_true p114; replace q114 := eq_true q114) | ((with_reducible refine gate_callee (f := 14) rfl ?_); refine goesL_ (some 58) rfl rfl Try.func14 (by kernel_rfl) rfl #[.int .i64 (wrap64 (Int.tdiv (rd l0 x10_1) 1000)), .int .i64 64] rfl (by (try simp only [List.map_toArray, List.map_cons, List.map_nil]); first | done | rfl | (simp only [List.length_drop, List.length_take]; rfl)) ?_; (with_reducible refine (packthreadkeep_Picked.calls (wrap64 (Int.tdiv (rd l0 x10_1) 1000)) 64 t115 _ A16.out).mono ?_); rintro e w' ⟨rfl, ⟨nd, rfl⟩⟩; refine ⟨_, rfl, ?_⟩; obtain ⟨i029, hi029, _, hsz29, _⟩ := info_parts info5; obtain ⟨A29, hcut29, hA29, hC29⟩ := print_mid_of (P := Try.prog) (Value.int .u8) 0 24 5 .i64 .i64 Try.underlying24 hi029 hsz29 A1 c1 l1 t113 (ji17) (of_decide_eq_true (by first | (with_reducible assumption) | assumption)) (by first | omega | exact of_decide_eq_true (by first | (with_reducible assumption) | assumption)) (of_decide_eq_true (by first | (with_reducible assumption) | assumption)) HC1.out; have HR116 := Aside0.mk (Kd.C_of_reads (h1 := fun _ => rfl) (hA29 _ (Kd.reads_of_C HR1.out))); have HC116 := Aside0.mk hC29; clear hA29 hC29 hi029 hsz29) | ((with_reducible refine gate_builtin (b := .append) (xs := #[.const (.slice none 0 0), .tmp 66]) rfl ?_); (try (refine gate_guard (by rfl) ?_; dsimp only)); at_builtin; refine Kd.R_append_rows (Kd.int .u8) (w0 := w) w.heap.size rfl (.const (.slice none 0 0)) (.tmp 66) 24 5 (.int .u8 0) 1 rfl Try.underlying24 info5 rfl (by decide) (by omega) (.slice none 0 0) ([] : List Int) ((l1.take ((ji17) : Int).toNat).drop (t113 : Int).toNat) _ _ _ (fun _ => True) (fun _ => False) rfl rfl ?aO ?aR (fun _ _ h => h) (fun _ h => h.elim) ?aF ?aB ?aS ?aL ?_; (case aR => first | (refine rr_len_ (show ((l1.take ((ji17) : Int).toNat).drop (t113 : Int).toNat).length = ((ji17).toNat - t113.toNat) from (by rw [List.length_drop, List.length_take]; have h_ : ((ji17) : Int) ≤ (l1.length : Int) := of_decide_eq_true (by first | (with_reducible assumption) | assumption); omega)) ?_; repeat (first | exact (Kd.C_below HR116.out (by repeat (first | (with_reducible first | exact HB.out | apply below_alloc | apply pw_below_drewN | apply below_drew1) | exact HB.out))) | (with_reducible refine Kd.C_alloc ?_ _) | (with_reducible refine Kd.C_drewN ?_ _) | (with_reducible refine Kd.C_drew ?_))) | (rw [← show ((l1.take ((ji17) : Int).toNat).drop (t113 : Int).toNat).length = ((ji17).toNat - t113.toNat) from (by rw [List.length_drop, List.length_take]; have h_ : ((ji17) : Int) ≤ (l1.length : Int) := of_decide_eq_true (by first | (with_reducible assumption) | assumption); omega)]; repeat (first | exact (Kd.C_below HR116.out (by repeat (first | (with_reducible first | exact HB.out | apply below_alloc | apply pw_below_drewN | apply below_drew1) | exact HB.out))) | (with_reducible refine Kd.C_alloc ?_ _) | (with_reducible refine Kd.C_drewN ?_ _) | (with_reducible refine Kd.C_drew ?_))) | (repeat (first | exact (Kd.C_below HR116.out (by repeat (first | (with_reducible first | exact HB.out | apply below_alloc | apply pw_below_drewN | apply below_drew1) | exact HB.out))) | (with_reducible refine Kd.C_alloc ?_ _) | (with_reducible refine Kd.C_drewN ?_ _) | (with_reducible refine Kd.C_drew ?_)))); (case aB => exact (by repeat (first | (with_reducible first | exact HB.out | apply below_alloc | apply pw_below_drewN | apply below_drew1) | exact HB.out))); (case aF => exact (fun _ _ => trivial)); (case aO => exact ((Kd.R_nil _ _ _ _ (fun _ => True)))); (case aS => exact (below_size (by repeat (first | (with_reducible first | exact HB.out | apply below_alloc | apply pw_below_drewN | apply below_drew1) | exact HB.out)))); (case aL => have := LMc21.out; have hlx_ := (show ((l1.take ((ji17) : Int).toNat).drop (t113 : Int).toNat).length = ((ji17).toNat - t113.toNat) from (by rw [List.length_drop, List.length_take]; have h_ : ((ji17) : Int) ≤ (l1.length : Int) := of_decide_eq_true (by first | (with_reducible assumption) | assumption); omega)); omega); intro v118 w30 ho hb hg hat; rw [← Ny117.out] at ho; have n0_ := Aside0.mk (Kd.S_after (Kd.S_apart_nil (by (with_reducible repeat (first | apply Kd.S_alloc | apply Kd.S_drewN | apply Kd.S_drew)); exact HO_9.out)) hg hat); have n1_ := Aside0.mk (hb); have n2_ := Aside0.mk (ho); clear HO_9; clear HB; have HO_9 := n0_; have HB := n1_; have HO119 := n2_; clear n0_ n1_ n2_; clear ho hb hg hat; obtain ⟨Ao31, co31, eo31⟩ := Kd.R_slice HO119.out; subst eo31) | ((with_reducible refine gate_builtin (b := .append) (xs := #[.tmp 61, .tmp 76]) rfl ?_); (try (refine gate_guard (by rfl) ?_; dsimp only)); at_builtin; refine Kd.S_append k38 (w0 := w) w.heap.size rfl (.tmp 61) (.tmp 76) 26 38 (.agg #[(.int .i64 0), (.int .i64 0), (.slice none 0 0), (.bool false), (.int .i64 0)]) 56 rfl Try.underlying26 info38 rfl (by decide) (by omega) u9 x9_1 (⟨1, t113, y117, false, 0⟩ : S38) [.int .i64 1, .int .i64 t113, .slice Ao31 y117.length co31, .bool false, .int .i64 0] (fun _ => True) (fun k_ => some k_ = (.slice Ao31 y117.length co31 : Value).ownBlock) rfl rfl ?aP (fun k_ hk_ => ((Kd.R_mono (ok' := fun k_ => ((fun _ => True)) k_ ∧ some k_ ≠ (u9 : Value).ownBlock) (Kd.R_apart' (HO119.out) (Kd.S_typed HO_9.out) (by decide)) (fun k_ hk => ⟨trivial, hk.2⟩))).1 k_ hk_.symm) ?aF ?aO ?aB ?aS ?aL ?_; (case aP => exact k38_mkM _ _ _ (⟨1, t113, y117, false, 0⟩ : S38) (Kd.R_mono (Kd.R_tight rfl (Kd.R_mono (ok' := fun k_ => ((fun _ => True)) k_ ∧ some k_ ≠ (u9 : Value).ownBlock) (Kd.R_apart' (HO119.out) (Kd.S_typed HO_9.out) (by decide)) (fun k_ hk => ⟨trivial, hk.2⟩))) (fun _ h_ => h_))); (case aB => exact (by repeat (first | (with_reducible first | exact HB.out | apply below_alloc | apply pw_below_drewN | apply below_drew1) | exact HB.out))); (case aF => exact (fun _ _ => trivial)); (case aO => exact (by (with_reducible repeat (first | apply Kd.S_alloc | apply Kd.S_drewN | apply Kd.S_drew)); exact Kd.S_mono HO_9.out (fun k_ hk => ⟨trivial, fun e_ => hk.2 e_⟩))); (case aS => exact (below_size (by repeat (first | (with_reducible first | exact HB.out | apply below_alloc | apply pw_below_drewN | apply below_drew1) | exact HB.out)))); (case aL => have := LMc28.out; omega); intro v124 w32 ho hb hg hat; rw [← Ny123.out] at ho; have n0_ := Aside0.mk (hb); have n1_ := Aside0.mk (ho); clear HB; clear HO_9; clear HO119; have HB := n0_; have HO125 := n1_; clear n0_ n1_; clear ho hb hg hat))
                              go_roundg kj4
                              case measure => have := HK1.out; have := HJ4.out; omega
                              case rel => exact ⟨(y123), (wrap64 (x10_1 + 1)), (by first | rfl | (simp; done) | (simp [*]; done)), H', ⟨by have := HK1.out; have := HJ4.out; omega⟩, ⟨by (with_reducible repeat (first | apply Kd.S_alloc | apply Kd.S_drewN | apply Kd.S_drew)); exact HO125.out⟩, ⟨by repeat (first | (with_reducible first | exact HB.out | apply below_alloc | apply pw_below_drewN | apply below_drew1) | exact HB.out)⟩⟩
                            · rw [if_neg c28] at H
                              exact absurd H (by simp)
                        · rw [if_neg c21] at H
                          exact absurd H (by simp)
                      · rw [if_neg c20] at H
                        exact absurd H (by simp)
                    · rw [if_neg c19] at H
                      exact absurd H (by simp)
                  · rw [if_neg c18] at H
                    exact absurd H (by simp)
              · rw [if_neg c9] at H
                exact absurd H (by simp)
            · rw [if_neg c8] at H
              exact absurd H (by simp)
          · replace c7 := Bool.eq_false_iff.mpr c7
            subst c7
            have H1 : (some x9_1) = some r := by rw [if_neg (show ¬ (false = true) by decide)] at H; exact H
            clear H
            have H := H1
            clear H1
            obtain rfl := Option.some.inj H
            go_wp2
            go_ret
            exact ⟨_, by first | rfl | (simp [errW_none, errW_some] <;> rfl) | (simp [*, errW_none, errW_some] <;> rfl), by (with_reducible repeat (first | apply Kd.S_alloc | apply Kd.S_drewN | apply Kd.S_drew)); exact HO_9.out, by repeat (first | (with_reducible first | exact HB.out | apply below_alloc | apply pw_below_drewN | apply below_drew1) | exact HB.out)⟩

/-! ### packthreadkeep_sameBytes: function 18 -/
def packthreadkeep_sameBytes.l0 : Nat → List Int → List Int → Int → Option (Bool)
  | 0, _, _, _ => none
  | k + 1, x0, x1, x5 => if x5 < (x0.length : Int) then (if 0 ≤ x5 then (if x5 < (x1.length : Int) then (if (rd x0 x5) = (rd x1 x5) then (packthreadkeep_sameBytes.l0 k x0 x1 (wrap64 (x5 + 1))) else (some false)) else (none)) else (none)) else (some true)
def packthreadkeep_sameBytes.f (k : Nat) (l0 : List Int) (l1 : List Int) : Option (Bool) := if (l0.length : Int) = (l1.length : Int) then (packthreadkeep_sameBytes.l0 k l0 l1 0) else (some false)
theorem packthreadkeep_sameBytes.mono_l : ∀ k, (∀ y0 y1 y2, LeO (packthreadkeep_sameBytes.l0 k y0 y1 y2) (packthreadkeep_sameBytes.l0 (k + 1) y0 y1 y2))
  | 0 => fun _ _ _ r h => by simp [packthreadkeep_sameBytes.l0] at h
  | k + 1 => by
    have ih0 := packthreadkeep_sameBytes.mono_l k
    · intro y0 y1 y2
      unfold packthreadkeep_sameBytes.l0
      repeat' first
      | (with_reducible exact ih0 _ _ _)
      | (with_reducible exact LeO.refl _)
      | (with_reducible exact LeO.none _)
      | (with_reducible refine LeO.ite ?_ ?_)
      | (with_reducible refine LeO.bind ?_ (fun _ => ?_))
      | exact ih0 _ _ _
      | exact LeO.none _
      | refine LeO.ite ?_ ?_
      | refine LeO.bind ?_ (fun _ => ?_)
theorem packthreadkeep_sameBytes.mono : ∀ a0 a1 k, LeO (packthreadkeep_sameBytes.f k a0 a1) (packthreadkeep_sameBytes.f (k + 1) a0 a1) := by
  intro a0 a1 k
  have ih0 := packthreadkeep_sameBytes.mono_l k
  unfold packthreadkeep_sameBytes.f
  repeat' first
      | (with_reducible exact ih0 _ _ _)
      | (with_reducible exact LeO.refl _)
      | (with_reducible exact LeO.none _)
      | (with_reducible refine LeO.ite ?_ ?_)
      | (with_reducible refine LeO.bind ?_ (fun _ => ?_))
      | exact ih0 _ _ _
      | exact LeO.none _
      | refine LeO.ite ?_ ?_
      | refine LeO.bind ?_ (fun _ => ?_)
set_option maxHeartbeats 8000000 in
set_option maxRecDepth 100000 in
theorem packthreadkeep_sameBytes.calls (k : Nat) (A0 : Option Addr) (c0 : Nat) (l0 : List Int) (A1 : Option Addr) (c1 : Nat) (l1 : List Int) (r : Bool) (w : World) (hr0 : Kd.C (Kd.int .u8) w A0 l0.length l0) (hc0 : l0.length ≤ c0) (hr1 : Kd.C (Kd.int .u8) w A1 l1.length l1) (hc1 : l1.length ≤ c1) (h : packthreadkeep_sameBytes.f k l0 l1 = some r) :
    Calls Try.prog 18 #[.slice A0 l0.length c0, .slice A1 l1.length c1] w fun e w' => e = .returned (.bool r) ∧ Drawn0 w w' := by
  have HR0 := Aside0.mk hr0
  have HC0 := Aside0.mk hc0
  clear hr0 hc0
  have HR1 := Aside0.mk hr1
  have HC1 := Aside0.mk hc1
  clear hr1 hc1
  have H : (if (l0.length : Int) = (l1.length : Int) then (packthreadkeep_sameBytes.l0 k l0 l1 0) else (some false)) = some r := h
  clear h
  by_cases c3 : (l0.length : Int) = (l1.length : Int)
  · rw [if_pos c3] at H
    have c3b0 : ((l0.length : Int) == (l1.length : Int)) = true := beq_iff_eq.mpr c3
    have c3b1 : ((l0.length : Int) != (l1.length : Int)) = false := bne_eq_false_iff_eq.mpr c3
    have c3b2 : (l0.length == l1.length) = true := by first | simpa using c3 | (simp at c3 ⊢; omega)
    clear c3
    have H' := Aside0.mk H
    clear H
    go_enter Try.func18, Try.ntmps18
    go_wp2
    repeat (go_quiet (fail); try go_wp2)
    go_loopg [5] k (fun kq v5 w' => ∃ (x5_1 : Int), v5 = .int .i64 x5_1 ∧ Aside0 (packthreadkeep_sameBytes.l0 kq l0 l1 x5_1 = some r) ∧ Aside0 (kq ≤ k) ∧ Drawn0 w w')
    case atStart => exact ⟨(0), (by first | rfl | (simp; done) | (simp [*]; done)), H', ⟨Nat.le_refl _⟩, by repeat (first | exact Drawn0.refl _ | apply Drawn0.step)⟩
    case round =>
      clear H'
      try clear c1
      try clear p2
      try clear c3
      try clear c3b0
      try clear c3b1
      try clear c3b2
      obtain ⟨x5_1, rfl, HA, HK1, ⟨m1, rfl⟩⟩ := hrel
      cases gk with
      | zero => exact absurd HA.out (by simp [packthreadkeep_sameBytes.l0])
      | succ k1 =>
        have H := HA.out
        clear HA
        simp only [packthreadkeep_sameBytes.l0] at H
        by_cases c4 : x5_1 < (l0.length : Int)
        · rw [if_pos c4] at H
          have c4b0 : decide (x5_1 < (l0.length : Int)) = true := decide_eq_true c4
          clear c4
          by_cases c5 : 0 ≤ x5_1
          · rw [if_pos c5] at H
            have c5b0 : decide (0 ≤ x5_1) = true := decide_eq_true c5
            clear c5
            by_cases c6 : x5_1 < (l1.length : Int)
            · rw [if_pos c6] at H
              have c6b0 : decide (x5_1 < (l1.length : Int)) = true := decide_eq_true c6
              clear c6
              by_cases c7 : (rd l0 x5_1) = (rd l1 x5_1)
              · rw [if_pos c7] at H
                have c7b0 : ((rd l0 x5_1) == (rd l1 x5_1)) = true := beq_iff_eq.mpr c7
                have c7b1 : ((rd l0 x5_1) != (rd l1 x5_1)) = false := bne_eq_false_iff_eq.mpr c7
                clear c7
                have H' := Aside0.mk H
                clear H
                have p126 : 0 ≤ (x5_1 : Int) := of_decide_eq_true (by first | (with_reducible assumption) | assumption)
                have q126 : x5_1 < (l0.length : Int) := of_decide_eq_true (by first | (with_reducible assumption) | assumption)
                obtain ⟨ad126, e126, hx126_0⟩ := Kd.at_int HR0.out x5_1 p126 q126
                cases e126
                replace p126 := eq_true p126
                replace q126 := eq_true q126
                have p127 : 0 ≤ (x5_1 : Int) := of_decide_eq_true (by first | (with_reducible assumption) | assumption)
                have q127 : x5_1 < (l1.length : Int) := of_decide_eq_true (by first | (with_reducible assumption) | assumption)
                obtain ⟨ad127, e127, hx127_0⟩ := Kd.at_int HR1.out x5_1 p127 q127
                cases e127
                replace p127 := eq_true p127
                replace q127 := eq_true q127
                go_wp2
                repeat (go_quiet (fail); try go_wp2)
                go_roundg k1
                case measure => have := HK1.out; omega
                case rel => exact ⟨(wrap64 (x5_1 + 1)), (by first | rfl | (simp; done) | (simp [*]; done)), H', ⟨by have := HK1.out; omega⟩, by repeat (first | exact Drawn0.refl _ | apply Drawn0.step)⟩
              · rw [if_neg c7] at H
                have c7b0 : ((rd l0 x5_1) == (rd l1 x5_1)) = false := beq_eq_false_iff_ne.mpr c7
                have c7b1 : ((rd l0 x5_1) != (rd l1 x5_1)) = true := bne_iff_ne.mpr c7
                obtain rfl := Option.some.inj H
                have p126 : 0 ≤ (x5_1 : Int) := of_decide_eq_true (by first | (with_reducible assumption) | assumption)
                have q126 : x5_1 < (l0.length : Int) := of_decide_eq_true (by first | (with_reducible assumption) | assumption)
                obtain ⟨ad126, e126, hx126_0⟩ := Kd.at_int HR0.out x5_1 p126 q126
                cases e126
                replace p126 := eq_true p126
                replace q126 := eq_true q126
                have p127 : 0 ≤ (x5_1 : Int) := of_decide_eq_true (by first | (with_reducible assumption) | assumption)
                have q127 : x5_1 < (l1.length : Int) := of_decide_eq_true (by first | (with_reducible assumption) | assumption)
                obtain ⟨ad127, e127, hx127_0⟩ := Kd.at_int HR1.out x5_1 p127 q127
                cases e127
                replace p127 := eq_true p127
                replace q127 := eq_true q127
                go_wp2
                repeat (go_quiet (fail); try go_wp2)
                go_ret
                exact ⟨by first | rfl | (simp; done) | (simp [*]; done), by repeat (first | exact Drawn0.refl _ | apply Drawn0.step)⟩
            · rw [if_neg c6] at H
              exact absurd H (by simp)
          · rw [if_neg c5] at H
            exact absurd H (by simp)
        · rw [if_neg c4] at H
          have c4b0 : decide (x5_1 < (l0.length : Int)) = false := decide_eq_false c4
          clear c4
          obtain rfl := Option.some.inj H
          go_wp2
          repeat (go_quiet (fail); try go_wp2)
          go_ret
          exact ⟨by first | rfl | (simp; done) | (simp [*]; done), by repeat (first | exact Drawn0.refl _ | apply Drawn0.step)⟩
  · rw [if_neg c3] at H
    have c3b0 : ((l0.length : Int) == (l1.length : Int)) = false := beq_eq_false_iff_ne.mpr c3
    have c3b1 : ((l0.length : Int) != (l1.length : Int)) = true := bne_iff_ne.mpr c3
    have c3b2 : (l0.length == l1.length) = false := by first | simpa using c3 | (simp at c3 ⊢; omega)
    obtain rfl := Option.some.inj H
    go_enter Try.func18, Try.ntmps18
    go_wp2
    repeat (go_quiet (fail); try go_wp2)
    go_ret
    exact ⟨by first | rfl | (simp; done) | (simp [*]; done), by repeat (first | exact Drawn0.refl _ | apply Drawn0.step)⟩

/-- A state of type 99 at block g of W; what its slices lead to came in by w0. -/
def IsS99 (w0 W : World) (g : Nat) (f0 : Int) (f1 : List Int) (f2 : Int) (f3 : List (S56)) (f4 : Int) (f5 : Int) : Prop := ∃ A1 c1, ∃ A3 c3, W.heap[g]? = some (.cells #[.int .i64 f0, .slice A1 f1.length c1, .int .i64 f2, .slice A3 f3.length c3, .int .i64 f4, .int .i64 f5] 99 (0, 0)) ∧ w0.heap.size ≤ g ∧ Kd.C (Kd.int .u8) w0 A1 f1.length f1 ∧ Kd.C k56 w0 A3 f3.length f3
theorem IsS99.grown {w0 W : World} {g : Nat} {f0 : Int} {f1 : List Int} {f2 : Int} {f3 : List (S56)} {f4 : Int} {f5 : Int} {W1 : World} {row : Option Nat} (h : IsS99 w0 W g f0 f1 f2 f3 f4 f5) (hw : W.grownBy W1 row) (hne : some g ≠ row) : IsS99 w0 W1 g f0 f1 f2 f3 f4 f5 := by
  obtain ⟨A1, c1, A3, c3, hb, hg, hr1, hr3⟩ := h
  exact ⟨A1, c1, A3, c3, blk_grown hb hw hne, hg, hr1, hr3⟩
theorem IsS99.own_neN {w0 W : World} {g : Nat} {f0 : Int} {f1 : List Int} {f2 : Int} {f3 : List (S56)} {f4 : Int} {f5 : Int} {α : Type} {d : Kd α} {e : Nat} {base : Nat} {ok : Nat → Prop} {v : Value} {xs : List α} (h : IsS99 w0 W g f0 f1 f2 f3 f4 f5) (ho : Kd.N d e W base ok v xs) (ht : e ≠ 99) : some g ≠ v.ownBlock := by
  obtain ⟨A1, c1, A3, c3, hb, hg, hr1, hr3⟩ := h
  exact Kd.N_ne ho hb ht
theorem IsS99.fresh {w0 W : World} {g : Nat} {f0 : Int} {f1 : List Int} {f2 : Int} {f3 : List (S56)} {f4 : Int} {f5 : Int} (h : IsS99 w0 W g f0 f1 f2 f3 f4 f5) : ∀ k, W.heap.size ≤ k → k ≠ g := by
  obtain ⟨A1, c1, A3, c3, hb, hg, hr1, hr3⟩ := h
  exact Kd.freshB hb
theorem IsS99.kept {w0 W : World} {g : Nat} {f0 : Int} {f1 : List Int} {f2 : Int} {f3 : List (S56)} {f4 : Int} {f5 : Int} {W1 : World} {S : Nat → Prop} (h : IsS99 w0 W g f0 f1 f2 f3 f4 f5) (hk : Kept W W1 S) (hne : ¬ S g) : IsS99 w0 W1 g f0 f1 f2 f3 f4 f5 := by
  obtain ⟨A1, c1, A3, c3, hb, hg, hr1, hr3⟩ := h
  exact ⟨A1, c1, A3, c3, blk_kept hb hk hne, hg, hr1, hr3⟩
theorem IsS99.below {w0 W : World} {g : Nat} {f0 : Int} {f1 : List Int} {f2 : Int} {f3 : List (S56)} {f4 : Int} {f5 : Int} {W1 : World} (h : IsS99 w0 W g f0 f1 f2 f3 f4 f5) (hw : Below W.heap.size W W1) : IsS99 w0 W1 g f0 f1 f2 f3 f4 f5 := h.grown (grown_of_below hw none) (by simp)
theorem IsS99.alloc {w0 W : World} {g : Nat} {f0 : Int} {f1 : List Int} {f2 : Int} {f3 : List (S56)} {f4 : Int} {f5 : Int} (h : IsS99 w0 W g f0 f1 f2 f3 f4 f5) (o : Obj) : IsS99 w0 (W.alloc o) g f0 f1 f2 f3 f4 f5 := h.below (below_alloc (Below.refl _ _) o)
theorem IsS99.drewN {w0 W : World} {g : Nat} {f0 : Int} {f1 : List Int} {f2 : Int} {f3 : List (S56)} {f4 : Int} {f5 : Int} (h : IsS99 w0 W g f0 f1 f2 f3 f4 f5) (m : Nat) : IsS99 w0 (W.drewN m) g f0 f1 f2 f3 f4 f5 := h
theorem IsS99.drew {w0 W : World} {g : Nat} {f0 : Int} {f1 : List Int} {f2 : Int} {f3 : List (S56)} {f4 : Int} {f5 : Int} (h : IsS99 w0 W g f0 f1 f2 f3 f4 f5) : IsS99 w0 W.drew g f0 f1 f2 f3 f4 f5 := h
theorem IsS99.at_ {w0 W : World} {g : Nat} {f0 : Int} {f1 : List Int} {f2 : Int} {f3 : List (S56)} {f4 : Int} {f5 : Int} {w' : World} {m : Nat} (hq : W.drewN m = w') (h : IsS99 w0 W g f0 f1 f2 f3 f4 f5) : IsS99 w0 w' g f0 f1 f2 f3 f4 f5 := by subst hq; exact IsS99.drewN h m
theorem IsS99.apart {w0 W : World} {g : Nat} {f0 : Int} {f1 : List Int} {f2 : Int} {f3 : List (S56)} {f4 : Int} {f5 : Int} {α : Type} {d : Kd α} {e : Nat} {base : Nat} {ok : Nat → Prop} {v : Value} {xs : List α} (h : IsS99 w0 W g f0 f1 f2 f3 f4 f5) (ho : d.R e W base ok v xs) (ht : ∀ q, q ∈ e :: d.E → q ≠ 99) : d.R e W base (fun k => ok k ∧ k ≠ g) v xs := by
  obtain ⟨A1, c1, A3, c3, hb, hg, hr1, hr3⟩ := h
  exact Kd.R_types ho hb ht
theorem IsS99.own_ne {w0 W : World} {g : Nat} {f0 : Int} {f1 : List Int} {f2 : Int} {f3 : List (S56)} {f4 : Int} {f5 : Int} {α : Type} {d : Kd α} {e : Nat} {base : Nat} {ok : Nat → Prop} {v : Value} {xs : List α} (h : IsS99 w0 W g f0 f1 f2 f3 f4 f5) (ho : d.R e W base ok v xs) (ht : e ≠ 99) : some g ≠ v.ownBlock := by
  obtain ⟨A1, c1, A3, c3, hb, hg, hr1, hr3⟩ := h
  exact Kd.R_ne ho hb ht
theorem IsS99.apartQ {w0 W : World} {g : Nat} {f0 : Int} {f1 : List Int} {f2 : Int} {f3 : List (S56)} {f4 : Int} {f5 : Int} {α : Type} {d : Kd α} {e : Nat} {base : Nat} {ok : Nat → Prop} {v : Value} {xs : List α} (h : IsS99 w0 W g f0 f1 f2 f3 f4 f5) (ho : d.Q e W base ok v xs) (ht : ∀ q, q ∈ e :: d.E → q ≠ 99) : d.Q e W base (fun k => ok k ∧ k ≠ g) v xs := by
  obtain ⟨A1, c1, A3, c3, hb, hg, hr1, hr3⟩ := h
  exact Kd.Q_types ho hb ht
theorem IsS99.own_neQ {w0 W : World} {g : Nat} {f0 : Int} {f1 : List Int} {f2 : Int} {f3 : List (S56)} {f4 : Int} {f5 : Int} {α : Type} {d : Kd α} {e : Nat} {base : Nat} {ok : Nat → Prop} {v : Value} {xs : List α} (h : IsS99 w0 W g f0 f1 f2 f3 f4 f5) (ho : d.Q e W base ok v xs) (ht : e ≠ 99) : some g ≠ v.ownBlock := by
  obtain ⟨A1, c1, A3, c3, hb, hg, hr1, hr3⟩ := h
  exact Kd.Q_ne ho hb ht
theorem IsS99.apartS {w0 W : World} {g : Nat} {f0 : Int} {f1 : List Int} {f2 : Int} {f3 : List (S56)} {f4 : Int} {f5 : Int} {α : Type} {d : Kd α} {e : Nat} {base : Nat} {ok : Nat → Prop} {v : Value} {xs : List α} (h : IsS99 w0 W g f0 f1 f2 f3 f4 f5) (ho : d.S e W base ok v xs) (ht : ∀ q, q ∈ e :: d.E → q ≠ 99) : d.S e W base (fun k => ok k ∧ k ≠ g) v xs := by
  obtain ⟨A1, c1, A3, c3, hb, hg, hr1, hr3⟩ := h
  exact Kd.S_types ho hb ht
theorem IsS99.own_neS {w0 W : World} {g : Nat} {f0 : Int} {f1 : List Int} {f2 : Int} {f3 : List (S56)} {f4 : Int} {f5 : Int} {α : Type} {d : Kd α} {e : Nat} {base : Nat} {ok : Nat → Prop} {v : Value} {xs : List α} (h : IsS99 w0 W g f0 f1 f2 f3 f4 f5) (ho : d.S e W base ok v xs) (ht : e ≠ 99) : some g ≠ v.ownBlock := by
  obtain ⟨A1, c1, A3, c3, hb, hg, hr1, hr3⟩ := h
  exact Kd.S_ne ho hb ht
theorem IsS99.lt {w0 W : World} {g : Nat} {f0 : Int} {f1 : List Int} {f2 : Int} {f3 : List (S56)} {f4 : Int} {f5 : Int} (h : IsS99 w0 W g f0 f1 f2 f3 f4 f5) : g < W.heap.size := by
  obtain ⟨A1, c1, A3, c3, hb, hg, hr1, hr3⟩ := h
  exact blk_lt hb
theorem IsS99.ge {w0 W : World} {g : Nat} {f0 : Int} {f1 : List Int} {f2 : Int} {f3 : List (S56)} {f4 : Int} {f5 : Int} (h : IsS99 w0 W g f0 f1 f2 f3 f4 f5) : w0.heap.size ≤ g := by
  obtain ⟨A1, c1, A3, c3, hb, hg, hr1, hr3⟩ := h
  exact hg
theorem IsS99.ne_blk {w0 W : World} {g : Nat} {f0 : Int} {f1 : List Int} {f2 : Int} {f3 : List (S56)} {f4 : Int} {f5 : Int} {a : Nat} {cs : Array Value} {t : TypeId} {fr : Nat × Nat} (h : IsS99 w0 W g f0 f1 f2 f3 f4 f5) (hb2 : W.heap[a]? = some (.cells cs t fr)) (ht : t ≠ 99) : g ≠ a := by
  obtain ⟨A1, c1, A3, c3, hb, hg, hr1, hr3⟩ := h
  rintro rfl
  rw [hb] at hb2
  injection hb2 with hb2
  injection hb2 with _ ht2
  exact ht ht2.symm
theorem IsS99.far {w0 W : World} {g : Nat} {f0 : Int} {f1 : List Int} {f2 : Int} {f3 : List (S56)} {f4 : Int} {f5 : Int} {p : Addr} (h : IsS99 w0 W g f0 f1 f2 f3 f4 f5) (hne : g ≠ p.block) (u : Value) : IsS99 w0 (W.setCell p u) g f0 f1 f2 f3 f4 f5 := by
  obtain ⟨A1, c1, A3, c3, hb, hg, hr1, hr3⟩ := h
  exact ⟨A1, c1, A3, c3, blk_far hb hne u, hg, hr1, hr3⟩
theorem cellS99_0 {W : World} {g : Nat} {A1 : Option Addr} {c1 : Nat} {A3 : Option Addr} {c3 : Nat} {f0 : Int} {f1 : List Int} {f2 : Int} {f3 : List (S56)} {f4 : Int} {f5 : Int} (h : W.heap[g]? = some (.cells #[.int .i64 f0, .slice A1 f1.length c1, .int .i64 f2, .slice A3 f3.length c3, .int .i64 f4, .int .i64 f5] 99 (0, 0))) : W.cell? ⟨g, 0, none⟩ = some (.int .i64 f0) := (blk_cell h 0).trans rfl
theorem IsS99.set_0 {w0 W : World} {g : Nat} {f0 : Int} {f1 : List Int} {f2 : Int} {f3 : List (S56)} {f4 : Int} {f5 : Int} (h : IsS99 w0 W g f0 f1 f2 f3 f4 f5) (x : Int) : IsS99 w0 (W.setCell ⟨g, 0, none⟩ (.int .i64 x)) g x f1 f2 f3 f4 f5 := by
  obtain ⟨A1, c1, A3, c3, hb, hg, hr1, hr3⟩ := h
  exact ⟨A1, c1, A3, c3, by simpa using blk_set hb 0 (.int .i64 x), hg, hr1, hr3⟩
theorem cellS99_1 {W : World} {g : Nat} {A1 : Option Addr} {c1 : Nat} {A3 : Option Addr} {c3 : Nat} {f0 : Int} {f1 : List Int} {f2 : Int} {f3 : List (S56)} {f4 : Int} {f5 : Int} (h : W.heap[g]? = some (.cells #[.int .i64 f0, .slice A1 f1.length c1, .int .i64 f2, .slice A3 f3.length c3, .int .i64 f4, .int .i64 f5] 99 (0, 0))) : W.cell? ⟨g, 1, none⟩ = some (.slice A1 f1.length c1) := (blk_cell h 1).trans rfl
theorem cellS99_2 {W : World} {g : Nat} {A1 : Option Addr} {c1 : Nat} {A3 : Option Addr} {c3 : Nat} {f0 : Int} {f1 : List Int} {f2 : Int} {f3 : List (S56)} {f4 : Int} {f5 : Int} (h : W.heap[g]? = some (.cells #[.int .i64 f0, .slice A1 f1.length c1, .int .i64 f2, .slice A3 f3.length c3, .int .i64 f4, .int .i64 f5] 99 (0, 0))) : W.cell? ⟨g, 2, none⟩ = some (.int .i64 f2) := (blk_cell h 2).trans rfl
theorem IsS99.set_2 {w0 W : World} {g : Nat} {f0 : Int} {f1 : List Int} {f2 : Int} {f3 : List (S56)} {f4 : Int} {f5 : Int} (h : IsS99 w0 W g f0 f1 f2 f3 f4 f5) (x : Int) : IsS99 w0 (W.setCell ⟨g, 2, none⟩ (.int .i64 x)) g f0 f1 x f3 f4 f5 := by
  obtain ⟨A1, c1, A3, c3, hb, hg, hr1, hr3⟩ := h
  exact ⟨A1, c1, A3, c3, by simpa using blk_set hb 2 (.int .i64 x), hg, hr1, hr3⟩
theorem cellS99_3 {W : World} {g : Nat} {A1 : Option Addr} {c1 : Nat} {A3 : Option Addr} {c3 : Nat} {f0 : Int} {f1 : List Int} {f2 : Int} {f3 : List (S56)} {f4 : Int} {f5 : Int} (h : W.heap[g]? = some (.cells #[.int .i64 f0, .slice A1 f1.length c1, .int .i64 f2, .slice A3 f3.length c3, .int .i64 f4, .int .i64 f5] 99 (0, 0))) : W.cell? ⟨g, 3, none⟩ = some (.slice A3 f3.length c3) := (blk_cell h 3).trans rfl
theorem cellS99_4 {W : World} {g : Nat} {A1 : Option Addr} {c1 : Nat} {A3 : Option Addr} {c3 : Nat} {f0 : Int} {f1 : List Int} {f2 : Int} {f3 : List (S56)} {f4 : Int} {f5 : Int} (h : W.heap[g]? = some (.cells #[.int .i64 f0, .slice A1 f1.length c1, .int .i64 f2, .slice A3 f3.length c3, .int .i64 f4, .int .i64 f5] 99 (0, 0))) : W.cell? ⟨g, 4, none⟩ = some (.int .i64 f4) := (blk_cell h 4).trans rfl
theorem IsS99.set_4 {w0 W : World} {g : Nat} {f0 : Int} {f1 : List Int} {f2 : Int} {f3 : List (S56)} {f4 : Int} {f5 : Int} (h : IsS99 w0 W g f0 f1 f2 f3 f4 f5) (x : Int) : IsS99 w0 (W.setCell ⟨g, 4, none⟩ (.int .i64 x)) g f0 f1 f2 f3 x f5 := by
  obtain ⟨A1, c1, A3, c3, hb, hg, hr1, hr3⟩ := h
  exact ⟨A1, c1, A3, c3, by simpa using blk_set hb 4 (.int .i64 x), hg, hr1, hr3⟩
theorem cellS99_5 {W : World} {g : Nat} {A1 : Option Addr} {c1 : Nat} {A3 : Option Addr} {c3 : Nat} {f0 : Int} {f1 : List Int} {f2 : Int} {f3 : List (S56)} {f4 : Int} {f5 : Int} (h : W.heap[g]? = some (.cells #[.int .i64 f0, .slice A1 f1.length c1, .int .i64 f2, .slice A3 f3.length c3, .int .i64 f4, .int .i64 f5] 99 (0, 0))) : W.cell? ⟨g, 5, none⟩ = some (.int .i64 f5) := (blk_cell h 5).trans rfl
theorem IsS99.set_5 {w0 W : World} {g : Nat} {f0 : Int} {f1 : List Int} {f2 : Int} {f3 : List (S56)} {f4 : Int} {f5 : Int} (h : IsS99 w0 W g f0 f1 f2 f3 f4 f5) (x : Int) : IsS99 w0 (W.setCell ⟨g, 5, none⟩ (.int .i64 x)) g f0 f1 f2 f3 f4 x := by
  obtain ⟨A1, c1, A3, c3, hb, hg, hr1, hr3⟩ := h
  exact ⟨A1, c1, A3, c3, by simpa using blk_set hb 5 (.int .i64 x), hg, hr1, hr3⟩
theorem IsS99.new (w0 W : World) (A1 : Option Addr) (c1 : Nat) (A3 : Option Addr) (c3 : Nat) (f0 : Int) (f1 : List Int) (f2 : Int) (f3 : List (S56)) (f4 : Int) (f5 : Int) (hB : Below w0.heap.size w0 W) (hr1 : Kd.C (Kd.int .u8) w0 A1 f1.length f1) (hr3 : Kd.C k56 w0 A3 f3.length f3) : IsS99 w0 (W.alloc (.cells #[.int .i64 f0, .slice A1 f1.length c1, .int .i64 f2, .slice A3 f3.length c3, .int .i64 f4, .int .i64 f5] 99)) W.heap.size f0 f1 f2 f3 f4 f5 := ⟨A1, c1, A3, c3, by simpa using heap_alloc_new W _, hB.size, hr1, hr3⟩

/-! ### recv_New: function 32 -/
def recv_New.f (a0 : Int) : Option (Int × List Int × Int × (List (S56)) × Int × Int) := some (a0, ([] : List Int), 0, ([] : List (S56)), 0, (-1))
set_option maxHeartbeats 8000000 in
set_option maxRecDepth 100000 in
theorem recv_New.calls (a0 : Int) (r1 : Int) (r2 : List Int) (r3 : Int) (r4 : List (S56)) (r5 : Int) (r6 : Int) (w0 w : World) (hB : Below w0.heap.size w0 w) (h : recv_New.f a0 = some (r1, r2, r3, r4, r5, r6)) :
    Calls Try.prog 32 #[.int .i64 a0] w fun e w' => ∃ g_ : Nat, e = .returned (.pointer (some ⟨g_, 0, none⟩)) ∧ IsS99 w0 w' g_ r1 r2 r3 r4 r5 r6 ∧ Below w0.heap.size w0 w' ∧ Below w.heap.size w w' := by
  have hu99 := Try.underlying99
  have HBW := Aside0.mk (Below.refl w.heap.size w)
  have HW0 := Aside0.mk hB.size
  have HB := Aside0.mk hB
  clear hB
  have H : (some (a0, ([] : List Int), 0, ([] : List (S56)), 0, (-1))) = some (r1, r2, r3, r4, r5, r6) := h
  clear h
  simp only [Option.some.injEq, Prod.mk.injEq] at H
  obtain ⟨rfl, rfl, rfl, rfl, rfl, rfl⟩ := H
  go_enter Try.func32, Try.ntmps32
  go_wp2_with (first | ((with_reducible refine gate_dst (N := 5) rfl ?_); refine box_event ?hg (N := 5) ?hd (cs := #[.int .i64 a0, .slice none 0 0, .int .i64 0, .slice none 0 0, .int .i64 0, .int .i64 (-1)]) (t := 99) ?hr ?_; (case hd => rfl); (case hg => rfl); (case hr => first | (go_simp; done) | (go_simp; rfl)); intro gb128 hg w2 hbox hb; have n0_ := Aside0.mk (below_step HBW.out hb); have n1_ := Aside0.mk (below_step (by repeat (first | (with_reducible first | exact HB.out | apply below_alloc | apply pw_below_drewN | apply below_drew1) | exact HB.out)) hb); have n2_ := Aside0.mk (hbox); have n3_ := Aside0.mk ((by rw [hg]; exact (below_size (by repeat (first | (with_reducible first | exact HBW.out | apply below_alloc | apply pw_below_drewN | apply below_drew1) | exact HBW.out))) : w.heap.size ≤ gb128)); have n4_ := Aside0.mk ((Nat.le_trans HW0.out (by rw [hg]; exact (below_size (by repeat (first | (with_reducible first | exact HBW.out | apply below_alloc | apply pw_below_drewN | apply below_drew1) | exact HBW.out))) : w.heap.size ≤ gb128) : w0.heap.size ≤ gb128)); clear HBW; clear HB; have HBW := n0_; have HB := n1_; have BK128 := n2_; have GW128 := n3_; have GE128 := n4_; clear n0_ n1_ n2_ n3_ n4_; clear hb hbox hg))
  go_ret
  exact ⟨_, rfl, (show IsS99 w0 _ gb128 a0 ([] : List Int) 0 ([] : List (S56)) 0 (-1) from ⟨none, 0, none, 0, by (with_reducible repeat (first | refine blk_drewN ?_ _ | refine blk_drew ?_ | refine blk_alloc ?_ _)); exact BK128.out, GE128.out, (Kd.C_nil _ _), (Kd.C_nil _ _)⟩), by repeat (first | (with_reducible first | exact HB.out | apply below_alloc | apply pw_below_drewN | apply below_drew1 | refine below_set ?_ GE128.out) | exact HB.out), by repeat (first | (with_reducible first | exact HBW.out | apply below_alloc | apply pw_below_drewN | apply below_drew1 | refine below_set ?_ GW128.out) | exact HBW.out)⟩

/-! ### recv_Hearer_beyond: function 53 -/
def recv_Hearer_beyond.f (s0_0 : Int) (s0_1 : List Int) (s0_2 : Int) (s0_3 : List (S56)) (s0_4 : Int) (s0_5 : Int) : Option (Int × Int × Int × Int × Int) := if (s0_3.length : Int) > 0 then (if 0 ≤ (wrap64 ((s0_3.length : Int) - 1)) then (if (wrap64 ((s0_3.length : Int) - 1)) < (s0_3.length : Int) then (some ((rd_T56 s0_3 (wrap64 ((s0_3.length : Int) - 1))).f1, s0_0, s0_2, s0_4, s0_5)) else (none)) else (none)) else (some (s0_2, s0_0, s0_2, s0_4, s0_5))
set_option maxHeartbeats 8000000 in
set_option maxRecDepth 100000 in
theorem recv_Hearer_beyond.calls (g : Nat) (s0_0 : Int) (s0_1 : List Int) (s0_2 : Int) (s0_3 : List (S56)) (s0_4 : Int) (s0_5 : Int) (r1 : Int) (r2 : Int) (r3 : Int) (r4 : Int) (r5 : Int) (w0 w : World) (hI : IsS99 w0 w g s0_0 s0_1 s0_2 s0_3 s0_4 s0_5) (hB : Below w0.heap.size w0 w) (h : recv_Hearer_beyond.f s0_0 s0_1 s0_2 s0_3 s0_4 s0_5 = some (r1, r2, r3, r4, r5)) :
    Calls Try.prog 53 #[.pointer (some ⟨g, 0, none⟩)] w fun e w' => e = .returned (.int .i64 r1) ∧ IsS99 w0 w' g r2 s0_1 r3 s0_3 r4 r5 ∧ Below w0.heap.size w0 w' ∧ KeepBut w w' g none := by
  have HI0 := Aside0.mk hI
  have HK := Aside0.mk (KeepBut.refl w g none)
  have HL := Aside0.mk hB.size
  clear hI
  have HW0 := Aside0.mk hB.size
  have HB := Aside0.mk hB
  clear hB
  have H : (if (s0_3.length : Int) > 0 then (if 0 ≤ (wrap64 ((s0_3.length : Int) - 1)) then (if (wrap64 ((s0_3.length : Int) - 1)) < (s0_3.length : Int) then (some ((rd_T56 s0_3 (wrap64 ((s0_3.length : Int) - 1))).f1, s0_0, s0_2, s0_4, s0_5)) else (none)) else (none)) else (some (s0_2, s0_0, s0_2, s0_4, s0_5))) = some (r1, r2, r3, r4, r5) := h
  clear h
  by_cases c2 : (s0_3.length : Int) > 0
  · rw [if_pos c2] at H
    have c2b0 : decide (0 < (s0_3.length : Int)) = true := decide_eq_true c2
    have c2b1 : decide (0 < s0_3.length) = true := decide_eq_true (by omega)
    clear c2
    obtain ⟨ji3, hji3⟩ : ∃ j_ : Int, (wrap64 ((s0_3.length : Int) - 1)) = j_ := ⟨_, rfl⟩
    replace H : (if 0 ≤ (ji3) then (if (ji3) < (s0_3.length : Int) then (some ((rd_T56 s0_3 (ji3)).f1, s0_0, s0_2, s0_4, s0_5)) else (none)) else (none)) = some (r1, r2, r3, r4, r5) := by first | (rw [hji3] at H; exact H) | (simp only [hji3] at H ⊢; exact H)
    have hji3w : (IntKind.i64.wrap ((s0_3.length : Int) - 1)) = ji3 := (i64_w _).trans hji3
    by_cases c4 : 0 ≤ (ji3)
    · rw [if_pos c4] at H
      have c4b0 : decide (0 ≤ (ji3)) = true := decide_eq_true c4
      clear c4
      by_cases c5 : (ji3) < (s0_3.length : Int)
      · rw [if_pos c5] at H
        have c5b0 : decide ((ji3) < (s0_3.length : Int)) = true := decide_eq_true c5
        clear c5
        simp only [Option.some.injEq, Prod.mk.injEq] at H
        obtain ⟨rfl, rfl, rfl, rfl, rfl⟩ := H
        obtain ⟨ASz6_1, cSz6_1, ASz6_3, cSz6_3, HGz6, hgz6, HSz6_1, HSz6_3⟩ := HI0.out
        have hcz6_0 := cellS99_0 HGz6
        have hcz6_1 := cellS99_1 HGz6
        have hcz6_2 := cellS99_2 HGz6
        have hcz6_3 := cellS99_3 HGz6
        have hcz6_4 := cellS99_4 HGz6
        have hcz6_5 := cellS99_5 HGz6
        have hfz6_0 := blk_frozen HGz6 0
        have hfz6_2 := blk_frozen HGz6 2
        have hfz6_4 := blk_frozen HGz6 4
        have hfz6_5 := blk_frozen HGz6 5
        clear HGz6 hgz6
        have p129 : 0 ≤ ((ji3) : Int) := of_decide_eq_true (by first | (with_reducible assumption) | assumption)
        have q129 : (ji3) < (s0_3.length : Int) := of_decide_eq_true (by first | (with_reducible assumption) | assumption)
        obtain ⟨ad129, e129, hx129_0, hx129_1⟩ := at_T56 HSz6_3 (ji3) p129 q129
        cases e129
        replace hx129_0 := pw_cell_below HB.out hx129_0
        replace hx129_1 := pw_cell_below HB.out hx129_1
        replace p129 := eq_true p129
        replace q129 := eq_true q129
        go_enter Try.func53, Try.ntmps53
        go_wp2
        go_ret
        exact ⟨by first | rfl | (simp [errW_none, errW_some] <;> rfl) | (simp only [← hji3]; first | rfl | (simp [errW_none, errW_some] <;> rfl)) | (simp [*, errW_none, errW_some] <;> rfl), by repeat (first | (with_reducible first | exact HI0.out | apply IsS99.alloc | apply IsS99.drewN | apply IsS99.drew | apply IsS99.set_0 | apply IsS99.set_2 | apply IsS99.set_4 | apply IsS99.set_5) | exact HI0.out), by repeat (first | (with_reducible first | exact HB.out | apply below_alloc | apply pw_below_drewN | apply below_drew1 | refine below_set ?_ (IsS99.ge HI0.out)) | exact HB.out), by repeat (first | (with_reducible first | exact HK.out | apply KeepBut.set_ | apply keep_drewN | apply keep_drew | apply keep_alloc) | exact HK.out)⟩
      · rw [if_neg c5] at H
        exact absurd H (by simp)
    · rw [if_neg c4] at H
      exact absurd H (by simp)
  · rw [if_neg c2] at H
    have c2b0 : decide (0 < (s0_3.length : Int)) = false := decide_eq_false c2
    have c2b1 : decide (0 < s0_3.length) = false := decide_eq_false (by omega)
    clear c2
    simp only [Option.some.injEq, Prod.mk.injEq] at H
    obtain ⟨rfl, rfl, rfl, rfl, rfl⟩ := H
    obtain ⟨ASz7_1, cSz7_1, ASz7_3, cSz7_3, HGz7, hgz7, HSz7_1, HSz7_3⟩ := HI0.out
    have hcz7_0 := cellS99_0 HGz7
    have hcz7_1 := cellS99_1 HGz7
    have hcz7_2 := cellS99_2 HGz7
    have hcz7_3 := cellS99_3 HGz7
    have hcz7_4 := cellS99_4 HGz7
    have hcz7_5 := cellS99_5 HGz7
    have hfz7_0 := blk_frozen HGz7 0
    have hfz7_2 := blk_frozen HGz7 2
    have hfz7_4 := blk_frozen HGz7 4
    have hfz7_5 := blk_frozen HGz7 5
    clear HGz7 hgz7
    go_enter Try.func53, Try.ntmps53
    go_wp2
    go_ret
    exact ⟨by first | rfl | (simp [errW_none, errW_some] <;> rfl) | (simp [*, errW_none, errW_some] <;> rfl), by repeat (first | (with_reducible first | exact HI0.out | apply IsS99.alloc | apply IsS99.drewN | apply IsS99.drew | apply IsS99.set_0 | apply IsS99.set_2 | apply IsS99.set_4 | apply IsS99.set_5) | exact HI0.out), by repeat (first | (with_reducible first | exact HB.out | apply below_alloc | apply pw_below_drewN | apply below_drew1 | refine below_set ?_ (IsS99.ge HI0.out)) | exact HB.out), by repeat (first | (with_reducible first | exact HK.out | apply KeepBut.set_ | apply keep_drewN | apply keep_drew | apply keep_alloc) | exact HK.out)⟩

end Go.Proofs.Ytjbilachfipicaa.PRecvTwice
