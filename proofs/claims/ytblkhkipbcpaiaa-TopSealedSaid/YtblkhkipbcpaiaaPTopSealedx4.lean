/- Printed by a program of this session (wip/myprint.py): Go functions of the law as Lean functions, and the proof that the code comes to these answers. -/
import Derived.Test.YtblkhkipbcpaiaaPTopSealedx0
import Derived.Test.YtblkhkipbcpaiaaPTopSealedx1
import Derived.Test.YtblkhkipbcpaiaaPTopSealedx2
import Derived.Test.YtblkhkipbcpaiaaPTopSealedx3
namespace Go.Proofs.Ytblkhkipbcpaiaa.PTopSealed
open Go.RowKit Go.Proofs.YtblkhkipbcpaiaaW.PrintWords Go.Proofs.YtblkhkipbcpaiaaW.PrintLast Go.Proofs.YtblkhkipbcpaiaaW.PrintMore
attribute [local go_sem] max2_int min2_int max_two min_two max_three min_three max_four min_four   -- for this text's walks alone
attribute [local go_sem] pn_setCell_drewN
set_option linter.unusedVariables false
set_option linter.unusedSimpArgs false

/-! ### packthreadtop_sameBytes: function 19 -/
def packthreadtop_sameBytes.l0 : Nat → List Int → List Int → Int → Option (Bool)
  | 0, _, _, _ => none
  | k + 1, x0, x1, x5 => if x5 < (x0.length : Int) then (if 0 ≤ x5 then (if x5 < (x1.length : Int) then (if (rd x0 x5) = (rd x1 x5) then (packthreadtop_sameBytes.l0 k x0 x1 (wrap64 (x5 + 1))) else (some false)) else (none)) else (none)) else (some true)
def packthreadtop_sameBytes.f (k : Nat) (l0 : List Int) (l1 : List Int) : Option (Bool) := if (l0.length : Int) = (l1.length : Int) then (packthreadtop_sameBytes.l0 k l0 l1 0) else (some false)
theorem packthreadtop_sameBytes.mono_l : ∀ k, (∀ y0 y1 y2, LeO (packthreadtop_sameBytes.l0 k y0 y1 y2) (packthreadtop_sameBytes.l0 (k + 1) y0 y1 y2))
  | 0 => fun _ _ _ r h => by simp [packthreadtop_sameBytes.l0] at h
  | k + 1 => by
    have ih0 := packthreadtop_sameBytes.mono_l k
    · intro y0 y1 y2
      unfold packthreadtop_sameBytes.l0
      repeat' first
      | (with_reducible exact ih0 _ _ _)
      | (with_reducible exact LeO.refl _)
      | (with_reducible exact LeO.none _)
      | (with_reducible refine LeO.ite ?_ ?_)
      | (with_reducible refine LeO.bind ?_ (fun _ => ?_))
      | exact ih0 _ _ _
      | exact LeO.none _
      | refine LeO.ite ?_ ?_
      | refine LeO.bind ?_ (fun _ => ?_)
theorem packthreadtop_sameBytes.mono : ∀ a0 a1 k, LeO (packthreadtop_sameBytes.f k a0 a1) (packthreadtop_sameBytes.f (k + 1) a0 a1) := by
  intro a0 a1 k
  have ih0 := packthreadtop_sameBytes.mono_l k
  unfold packthreadtop_sameBytes.f
  repeat' first
      | (with_reducible exact ih0 _ _ _)
      | (with_reducible exact LeO.refl _)
      | (with_reducible exact LeO.none _)
      | (with_reducible refine LeO.ite ?_ ?_)
      | (with_reducible refine LeO.bind ?_ (fun _ => ?_))
      | exact ih0 _ _ _
      | exact LeO.none _
      | refine LeO.ite ?_ ?_
      | refine LeO.bind ?_ (fun _ => ?_)
set_option maxHeartbeats 8000000 in
set_option maxRecDepth 100000 in
theorem packthreadtop_sameBytes.calls (k : Nat) (A0 : Option Addr) (c0 : Nat) (l0 : List Int) (A1 : Option Addr) (c1 : Nat) (l1 : List Int) (r : Bool) (w : World) (hr0 : Kd.C (Kd.int .u8) w A0 l0.length l0) (hc0 : l0.length ≤ c0) (hr1 : Kd.C (Kd.int .u8) w A1 l1.length l1) (hc1 : l1.length ≤ c1) (h : packthreadtop_sameBytes.f k l0 l1 = some r) :
    Calls Try.prog 19 #[.slice A0 l0.length c0, .slice A1 l1.length c1] w fun e w' => e = .returned (.bool r) ∧ Drawn0 w w' := by
  have HR0 := Aside0.mk hr0
  have HC0 := Aside0.mk hc0
  clear hr0 hc0
  have HR1 := Aside0.mk hr1
  have HC1 := Aside0.mk hc1
  clear hr1 hc1
  have H : (if (l0.length : Int) = (l1.length : Int) then (packthreadtop_sameBytes.l0 k l0 l1 0) else (some false)) = some r := h
  clear h
  by_cases c3 : (l0.length : Int) = (l1.length : Int)
  · rw [if_pos c3] at H
    have c3b0 : ((l0.length : Int) == (l1.length : Int)) = true := beq_iff_eq.mpr c3
    have c3b1 : ((l0.length : Int) != (l1.length : Int)) = false := bne_eq_false_iff_eq.mpr c3
    have c3b2 : (l0.length == l1.length) = true := by first | simpa using c3 | (simp at c3 ⊢; omega)
    clear c3
    have H' := Aside0.mk H
    clear H
    go_enter Try.func19, Try.ntmps19
    go_wp2
    repeat (go_quiet (fail); try go_wp2)
    go_loopg [5] k (fun kq v5 w' => ∃ (x5_1 : Int), v5 = .int .i64 x5_1 ∧ Aside0 (packthreadtop_sameBytes.l0 kq l0 l1 x5_1 = some r) ∧ Aside0 (kq ≤ k) ∧ Drawn0 w w')
    case atStart => exact ⟨(0), (by first | rfl | (simp; done) | (simp [*]; done)), H', ⟨Nat.le_refl _⟩, by repeat (first | exact Drawn0.refl _ | apply Drawn0.step)⟩
    case round =>
      clear H'
      try clear c1
      try clear p2
      try clear c3
      try clear c3b0
      try clear c3b1
      try clear c3b2
      obtain ⟨x5_1, rfl, HA, HK1, ⟨m1, rfl⟩⟩ := hrel
      cases gk with
      | zero => exact absurd HA.out (by simp [packthreadtop_sameBytes.l0])
      | succ k1 =>
        have H := HA.out
        clear HA
        simp only [packthreadtop_sameBytes.l0] at H
        by_cases c4 : x5_1 < (l0.length : Int)
        · rw [if_pos c4] at H
          have c4b0 : decide (x5_1 < (l0.length : Int)) = true := decide_eq_true c4
          clear c4
          by_cases c5 : 0 ≤ x5_1
          · rw [if_pos c5] at H
            have c5b0 : decide (0 ≤ x5_1) = true := decide_eq_true c5
            clear c5
            by_cases c6 : x5_1 < (l1.length : Int)
            · rw [if_pos c6] at H
              have c6b0 : decide (x5_1 < (l1.length : Int)) = true := decide_eq_true c6
              clear c6
              by_cases c7 : (rd l0 x5_1) = (rd l1 x5_1)
              · rw [if_pos c7] at H
                have c7b0 : ((rd l0 x5_1) == (rd l1 x5_1)) = true := beq_iff_eq.mpr c7
                have c7b1 : ((rd l0 x5_1) != (rd l1 x5_1)) = false := bne_eq_false_iff_eq.mpr c7
                clear c7
                have H' := Aside0.mk H
                clear H
                have p132 : 0 ≤ (x5_1 : Int) := of_decide_eq_true (by first | (with_reducible assumption) | assumption)
                have q132 : x5_1 < (l0.length : Int) := of_decide_eq_true (by first | (with_reducible assumption) | assumption)
                obtain ⟨ad132, e132, hx132_0⟩ := Kd.at_int HR0.out x5_1 p132 q132
                cases e132
                replace p132 := eq_true p132
                replace q132 := eq_true q132
                have p133 : 0 ≤ (x5_1 : Int) := of_decide_eq_true (by first | (with_reducible assumption) | assumption)
                have q133 : x5_1 < (l1.length : Int) := of_decide_eq_true (by first | (with_reducible assumption) | assumption)
                obtain ⟨ad133, e133, hx133_0⟩ := Kd.at_int HR1.out x5_1 p133 q133
                cases e133
                replace p133 := eq_true p133
                replace q133 := eq_true q133
                go_wp2
                repeat (go_quiet (fail); try go_wp2)
                go_roundg k1
                case measure => have := HK1.out; omega
                case rel => exact ⟨(wrap64 (x5_1 + 1)), (by first | rfl | (simp; done) | (simp [*]; done)), H', ⟨by have := HK1.out; omega⟩, by repeat (first | exact Drawn0.refl _ | apply Drawn0.step)⟩
              · rw [if_neg c7] at H
                have c7b0 : ((rd l0 x5_1) == (rd l1 x5_1)) = false := beq_eq_false_iff_ne.mpr c7
                have c7b1 : ((rd l0 x5_1) != (rd l1 x5_1)) = true := bne_iff_ne.mpr c7
                obtain rfl := Option.some.inj H
                have p132 : 0 ≤ (x5_1 : Int) := of_decide_eq_true (by first | (with_reducible assumption) | assumption)
                have q132 : x5_1 < (l0.length : Int) := of_decide_eq_true (by first | (with_reducible assumption) | assumption)
                obtain ⟨ad132, e132, hx132_0⟩ := Kd.at_int HR0.out x5_1 p132 q132
                cases e132
                replace p132 := eq_true p132
                replace q132 := eq_true q132
                have p133 : 0 ≤ (x5_1 : Int) := of_decide_eq_true (by first | (with_reducible assumption) | assumption)
                have q133 : x5_1 < (l1.length : Int) := of_decide_eq_true (by first | (with_reducible assumption) | assumption)
                obtain ⟨ad133, e133, hx133_0⟩ := Kd.at_int HR1.out x5_1 p133 q133
                cases e133
                replace p133 := eq_true p133
                replace q133 := eq_true q133
                go_wp2
                repeat (go_quiet (fail); try go_wp2)
                go_ret
                exact ⟨by first | rfl | (simp; done) | (simp [*]; done), by repeat (first | exact Drawn0.refl _ | apply Drawn0.step)⟩
            · rw [if_neg c6] at H
              exact absurd H (by simp)
          · rw [if_neg c5] at H
            exact absurd H (by simp)
        · rw [if_neg c4] at H
          have c4b0 : decide (x5_1 < (l0.length : Int)) = false := decide_eq_false c4
          clear c4
          obtain rfl := Option.some.inj H
          go_wp2
          repeat (go_quiet (fail); try go_wp2)
          go_ret
          exact ⟨by first | rfl | (simp; done) | (simp [*]; done), by repeat (first | exact Drawn0.refl _ | apply Drawn0.step)⟩
  · rw [if_neg c3] at H
    have c3b0 : ((l0.length : Int) == (l1.length : Int)) = false := beq_eq_false_iff_ne.mpr c3
    have c3b1 : ((l0.length : Int) != (l1.length : Int)) = true := bne_iff_ne.mpr c3
    have c3b2 : (l0.length == l1.length) = false := by first | simpa using c3 | (simp at c3 ⊢; omega)
    obtain rfl := Option.some.inj H
    go_enter Try.func19, Try.ntmps19
    go_wp2
    repeat (go_quiet (fail); try go_wp2)
    go_ret
    exact ⟨by first | rfl | (simp; done) | (simp [*]; done), by repeat (first | exact Drawn0.refl _ | apply Drawn0.step)⟩

/-! ### packthreadtop_TopSealed: function 7, by hand -/
attribute [local go_sem] pn_setCell_drewN
/-- What the law's walk asks: the segment, its bytes, its sum for another window, and what is read of it then. -/
def packthreadtop_TopSealed.Pure : Prop := ∀ (a0 a1 a2 : Int) (l3 : List Int) (a4 : Int), (∀ x ∈ l3, (Lit.int .u8 x).wf = true) → ∃ (k : Nat) (s a wn : Int) (b3 b4 b5 b6 : Bool) (l7 : List S52) (l8 X : List Int) (sm v sm2 : Int) (f3 f4 f5 f6 : Bool) (m7 : List S52), (packthreadkeep_Seg.f a0 a1 a2 8 [] l3 = some (s, a, wn, b3, b4, b5, b6, l7, l8)) ∧ (seg_Encode.f s a wn b3 b4 b5 b6 l7 l8 = some (X, 0)) ∧ (10 ≤ X.length ∧ X.length ≤ 1000) ∧ (X.length % 2 = 0 → inet_Fold.f k X = some 65535) ∧ (packthreadkeep_Picked.f a4 65536 = some v) ∧ (0 ≤ v ∧ v ≤ 65535) ∧ (0 ≤ rd X 8 ∧ rd X 8 ≤ 255) ∧ (0 ≤ rd X 9 ∧ rd X 9 ≤ 255) ∧ (Go.bits .or .i64 (rd X 8 * 256) (rd X 9) = sm) ∧ (inet_Update.f k sm wn v = some (sm2, 0)) ∧ (0 ≤ sm2 ∧ sm2 ≤ 65535) ∧ (seg_Decode.f ((((X.set 4 (v / 256 % 256)).set 5 (v % 256)).set 8 (sm2 / 256 % 256)).set 9 (sm2 % 256)) = some (s, a, v, f3, f4, f5, f6, m7, l8, 0)) ∧ (packthreadtop_sameBytes.f k l8 l8 = some true)
set_option maxHeartbeats 8000000 in
set_option maxRecDepth 100000 in
theorem topSealed_calls (k : Nat) (a0 a1 a2 : Int) (A3 : Option Addr) (c3 : Nat) (l3 : List Int) (a4 : Int) (s a wn : Int) (b3 b4 b5 b6 : Bool) (l7 : List S52) (l8 X : List Int) (sm v sm2 : Int) (f3 f4 f5 f6 : Bool) (m7 : List S52) (w : World) (hr3 : Kd.C (Kd.int .u8) w A3 l3.length l3) (hc3 : l3.length ≤ c3) (hS : packthreadkeep_Seg.f a0 a1 a2 8 [] l3 = some (s, a, wn, b3, b4, b5, b6, l7, l8)) (hE : seg_Encode.f s a wn b3 b4 b5 b6 l7 l8 = some (X, 0)) (hX : 10 ≤ X.length ∧ X.length ≤ 1000) (hF : X.length % 2 = 0 → inet_Fold.f k X = some 65535) (hP : packthreadkeep_Picked.f a4 65536 = some v) (hv : 0 ≤ v ∧ v ≤ 65535) (h8 : 0 ≤ rd X 8 ∧ rd X 8 ≤ 255) (h9 : 0 ≤ rd X 9 ∧ rd X 9 ≤ 255) (hm : Go.bits .or .i64 (rd X 8 * 256) (rd X 9) = sm) (hU : inet_Update.f k sm wn v = some (sm2, 0)) (hs2 : 0 ≤ sm2 ∧ sm2 ≤ 65535) (hD : seg_Decode.f ((((X.set 4 (v / 256 % 256)).set 5 (v % 256)).set 8 (sm2 / 256 % 256)).set 9 (sm2 % 256)) = some (s, a, v, f3, f4, f5, f6, m7, l8, 0)) (hB : packthreadtop_sameBytes.f k l8 l8 = some true) :
    Calls Try.prog 7 #[.int .i64 a0, .int .i64 a1, .int .i64 a2, .slice A3 l3.length c3, .int .i64 a4] w fun e w' => e = .returned (.bool true) ∧ Below w.heap.size w w' := by
  have hu26 := Try.underlying26
  have HR3 := Aside0.mk hr3
  have HC3 := Aside0.mk hc3
  have ZhS := Aside0.mk hS
  have ZhE := Aside0.mk hE
  have ZhX := Aside0.mk hX
  have ZhF := Aside0.mk hF
  have ZhP := Aside0.mk hP
  have Zhv := Aside0.mk hv
  have Zh8 := Aside0.mk h8
  have Zh9 := Aside0.mk h9
  have Zhm := Aside0.mk hm
  have ZhU := Aside0.mk hU
  have Zhs2 := Aside0.mk hs2
  have ZhD := Aside0.mk hD
  have ZhB := Aside0.mk hB
  clear hr3 hc3 hS hE hX hF hP hv h8 h9 hm hU hs2 hD hB
  go_enter Try.func7, Try.ntmps7
  go_upto_region 2 with (first
    | ((with_reducible refine gate_callee (f := 8) rfl ?_); (try (refine gate_guard (by rfl) ?_; dsimp only)); refine goesL_ _ rfl rfl Try.func8 (by kernel_rfl) rfl #[.int .i64 a0, .int .i64 a1, .int .i64 a2, .int .i64 8, .slice none 0 0, .slice A3 l3.length c3] rfl (by (try simp only [List.map_toArray, List.map_cons, List.map_nil]); first | done | rfl) ?_; refine (packthreadkeep_Seg.calls a0 a1 a2 8 none 0 [] A3 c3 l3 s a wn b3 b4 b5 b6 l7 l8 w (Kd.C_nil _ _) (by decide) HR3.out HC3.out ZhS.out).mono ?_; rintro e w1 ⟨v7, v8, rfl, ho7, ho8, hb⟩; refine ⟨_, rfl, ?_⟩; have HO7 := Aside0.mk ho7; have HO8 := Aside0.mk ho8; have HB1 := Aside0.mk hb; obtain ⟨A7, c7, e7⟩ := Kd.R_slice HO7.out; subst e7; obtain ⟨A8, c8, e8⟩ := Kd.R_slice HO8.out; subst e8; have hz := blk_new w1 (Obj.cells #[.int .i64 0, .int .i64 0, .int .i64 0, .bool false, .bool false, .bool false, .bool false, .slice none 0 0, .slice none 0 0] 26); have s0 : (w1.alloc (Obj.cells #[.int .i64 0, .int .i64 0, .int .i64 0, .bool false, .bool false, .bool false, .bool false, .slice none 0 0, .slice none 0 0] 26)).cell? ⟨w1.heap.size, 0, none⟩ = some (.int .i64 0) := (blk_cell hz 0).trans rfl; have e0 := blk_frozen hz 0; have s1 : (w1.alloc (Obj.cells #[.int .i64 0, .int .i64 0, .int .i64 0, .bool false, .bool false, .bool false, .bool false, .slice none 0 0, .slice none 0 0] 26)).cell? ⟨w1.heap.size, 1, none⟩ = some (.int .i64 0) := (blk_cell hz 1).trans rfl; have e1 := blk_frozen hz 1; have s2 : (w1.alloc (Obj.cells #[.int .i64 0, .int .i64 0, .int .i64 0, .bool false, .bool false, .bool false, .bool false, .slice none 0 0, .slice none 0 0] 26)).cell? ⟨w1.heap.size, 2, none⟩ = some (.int .i64 0) := (blk_cell hz 2).trans rfl; have e2 := blk_frozen hz 2; have s3 : (w1.alloc (Obj.cells #[.int .i64 0, .int .i64 0, .int .i64 0, .bool false, .bool false, .bool false, .bool false, .slice none 0 0, .slice none 0 0] 26)).cell? ⟨w1.heap.size, 3, none⟩ = some (.bool false) := (blk_cell hz 3).trans rfl; have e3 := blk_frozen hz 3; have s4 : (w1.alloc (Obj.cells #[.int .i64 0, .int .i64 0, .int .i64 0, .bool false, .bool false, .bool false, .bool false, .slice none 0 0, .slice none 0 0] 26)).cell? ⟨w1.heap.size, 4, none⟩ = some (.bool false) := (blk_cell hz 4).trans rfl; have e4 := blk_frozen hz 4; have s5 : (w1.alloc (Obj.cells #[.int .i64 0, .int .i64 0, .int .i64 0, .bool false, .bool false, .bool false, .bool false, .slice none 0 0, .slice none 0 0] 26)).cell? ⟨w1.heap.size, 5, none⟩ = some (.bool false) := (blk_cell hz 5).trans rfl; have e5 := blk_frozen hz 5; have s6 : (w1.alloc (Obj.cells #[.int .i64 0, .int .i64 0, .int .i64 0, .bool false, .bool false, .bool false, .bool false, .slice none 0 0, .slice none 0 0] 26)).cell? ⟨w1.heap.size, 6, none⟩ = some (.bool false) := (blk_cell hz 6).trans rfl; have e6 := blk_frozen hz 6; have s7 : (w1.alloc (Obj.cells #[.int .i64 0, .int .i64 0, .int .i64 0, .bool false, .bool false, .bool false, .bool false, .slice none 0 0, .slice none 0 0] 26)).cell? ⟨w1.heap.size, 7, none⟩ = some (.slice none 0 0) := (blk_cell hz 7).trans rfl; have e7 := blk_frozen hz 7; have s8 : (w1.alloc (Obj.cells #[.int .i64 0, .int .i64 0, .int .i64 0, .bool false, .bool false, .bool false, .bool false, .slice none 0 0, .slice none 0 0] 26)).cell? ⟨w1.heap.size, 8, none⟩ = some (.slice none 0 0) := (blk_cell hz 8).trans rfl; have e8 := blk_frozen hz 8; clear hz; clear ho7 ho8 hb))
  have HS2 := Aside0.mk (blk_new w1 (Obj.cells #[.int .i64 s, .int .i64 a, .int .i64 wn, .bool b3, .bool b4, .bool b5, .bool b6, .slice A7 l7.length c7, .slice A8 l8.length c8] 26))
  have HB2 := Aside0.mk (below_alloc HB1.out (Obj.cells #[.int .i64 s, .int .i64 a, .int .i64 wn, .bool b3, .bool b4, .bool b5, .bool b6, .slice A7 l7.length c7, .slice A8 l8.length c8] 26))
  have HP7 := Aside0.mk (Kd.R_alloc HO7.out (Obj.cells #[.int .i64 s, .int .i64 a, .int .i64 wn, .bool b3, .bool b4, .bool b5, .bool b6, .slice A7 l7.length c7, .slice A8 l8.length c8] 26))
  have HP8 := Aside0.mk (Kd.R_alloc HO8.out (Obj.cells #[.int .i64 s, .int .i64 a, .int .i64 wn, .bool b3, .bool b4, .bool b5, .bool b6, .slice A7 l7.length c7, .slice A8 l8.length c8] 26))
  obtain ⟨W2, hW2⟩ : ∃ y, w1.alloc (Obj.cells #[.int .i64 s, .int .i64 a, .int .i64 wn, .bool b3, .bool b4, .bool b5, .bool b6, .slice A7 l7.length c7, .slice A8 l8.length c8] 26) = y := ⟨_, rfl⟩
  rw [hW2] at HS2 HB2 HP7 HP8 ⊢
  clear hW2 s0 s1 s2 s3 s4 s5 s6 s7 s8 e0 e1 e2 e3 e4 e5 e6 e7 e8 HO7 HO8 HB1
  obtain ⟨g, hg⟩ : ∃ y, w1.heap.size = y := ⟨_, rfl⟩
  rw [hg] at HS2 ⊢
  clear hg HR3 HC3 ZhS
  have t0 : W2.cell? ⟨g, 0, none⟩ = some (.int .i64 s) := (blk_cell HS2.out 0).trans rfl
  have t1 : W2.cell? ⟨g, 1, none⟩ = some (.int .i64 a) := (blk_cell HS2.out 1).trans rfl
  have t2 : W2.cell? ⟨g, 2, none⟩ = some (.int .i64 wn) := (blk_cell HS2.out 2).trans rfl
  have t3 : W2.cell? ⟨g, 3, none⟩ = some (.bool b3) := (blk_cell HS2.out 3).trans rfl
  have t4 : W2.cell? ⟨g, 4, none⟩ = some (.bool b4) := (blk_cell HS2.out 4).trans rfl
  have t5 : W2.cell? ⟨g, 5, none⟩ = some (.bool b5) := (blk_cell HS2.out 5).trans rfl
  have t6 : W2.cell? ⟨g, 6, none⟩ = some (.bool b6) := (blk_cell HS2.out 6).trans rfl
  have t7 : W2.cell? ⟨g, 7, none⟩ = some (.slice A7 l7.length c7) := (blk_cell HS2.out 7).trans rfl
  have t8 : W2.cell? ⟨g, 8, none⟩ = some (.slice A8 l8.length c8) := (blk_cell HS2.out 8).trans rfl
  go_upto_region 3 with (first
    | ((with_reducible refine gate_callee (f := 9) rfl ?_); (try (refine gate_guard (by rfl) ?_; dsimp only)); refine goesL_ _ rfl rfl Try.func9 (by kernel_rfl) rfl #[.agg #[.int .i64 s, .int .i64 a, .int .i64 wn, .bool b3, .bool b4, .bool b5, .bool b6, .slice A7 l7.length c7, .slice A8 l8.length c8]] rfl (by (try simp only [List.map_toArray, List.map_cons, List.map_nil]); first | done | rfl) ?_; refine (seg_Encode.calls s a wn b3 b4 b5 b6 A7 c7 l7 A8 c8 l8 X 0 W2 (Kd.R_reads' HP7.out).2.2 (Kd.R_reads' HP7.out).2.1 (Kd.R_reads' HP8.out).2.2 (Kd.R_reads' HP8.out).2.1 ZhE.out).mono ?_; rintro e w3 ⟨vX, rfl, hoX, hb⟩; refine ⟨_, rfl, ?_⟩; have HS3 := Aside0.mk (blk_below HS2.out hb); have HB3 := Aside0.mk (below_step HB2.out hb); have HQ8 := Aside0.mk (Kd.R_below HP8.out hb); have HOX := Aside0.mk hoX; obtain ⟨AX, cX, eX⟩ := Kd.R_slice HOX.out; subst eX; clear hoX hb))
  clear t0 t1 t2 t3 t4 t5 t6 t7 t8 HS2 HB2 HP7 HP8 ZhE
  have kx : decide ((X.length : Int) < 10) = false := decide_eq_false (by have := ZhX.out; omega)
  go_upto_region 5 with (fail)
  clear kx
  go_cut [45] (fun v45 wc => v45 = .bool false ∧ Aside0 (Below w3.heap.size w3 wc))
  case first =>
    by_cases c2 : X.length % 2 = 0
    · have kp : ((X.length : Int) % 2 == 0) = true := by rw [beq_iff_eq]; omega
      have kq : (Int.tmod (X.length : Int) 2 == 0) = true := by rw [beq_iff_eq, Int.tmod_eq_emod_of_nonneg (by omega)]; omega
      have C2 := Aside0.mk c2
      clear c2
      go_wp2_with (first
        | ((with_reducible refine gate_callee (f := 17) rfl ?_); (try (refine gate_guard (by rfl) ?_; dsimp only)); refine goesL_ _ rfl rfl Try.func17 (by kernel_rfl) rfl #[.slice AX X.length cX] rfl (by (try simp only [List.map_toArray, List.map_cons, List.map_nil]); first | done | rfl) ?_; refine (inet_Fold.calls k AX cX X 65535 w3 (Kd.R_reads' HOX.out).2.2 (Kd.R_reads' HOX.out).2.1 (ZhF.out C2.out)).mono ?_; rintro e w4 ⟨rfl, hd⟩; refine ⟨_, rfl, ?_⟩; have HB4 := Aside0.mk hd.below; clear hd))
      go_meet
      case rel => exact ⟨rfl, HB4⟩
    · have kp : ((X.length : Int) % 2 == 0) = false := by rw [beq_eq_false_iff_ne]; omega
      have kq : (Int.tmod (X.length : Int) 2 == 0) = false := by rw [beq_eq_false_iff_ne, Int.tmod_eq_emod_of_nonneg (by omega)]; omega
      have C2 := Aside0.mk c2
      clear c2
      go_wp2
      go_meet
      case rel => exact ⟨rfl, ⟨Below.refl _ _⟩⟩
  case rest =>
    obtain ⟨rfl, hcut⟩ := hcut
    obtain ⟨w4, hw4⟩ : ∃ y : World, y = wc := ⟨_, rfl⟩
    subst hw4
    have HB4 := Aside0.mk (below_step HB3.out hcut.out)
    have HS4 := Aside0.mk (blk_below HS3.out hcut.out)
    have HR8 := Aside0.mk (Kd.R_below HQ8.out hcut.out)
    have HX4 := Aside0.mk (Kd.R_below HOX.out hcut.out)
    clear hcut HB3 HS3 HQ8 HOX ZhF
    go_upto_region 8 with (first
      | ((with_reducible refine gate_callee (f := 12) rfl ?_); (try (refine gate_guard (by rfl) ?_; dsimp only)); refine goesL_ _ rfl rfl Try.func12 (by kernel_rfl) rfl #[.int .i64 a4, .int .i64 65536] rfl (by (try simp only [List.map_toArray, List.map_cons, List.map_nil]); first | done | rfl) ?_; refine (packthreadkeep_Picked.calls a4 65536 v w4 ZhP.out).mono ?_; rintro e w5 ⟨rfl, hd⟩; refine ⟨_, rfl, ?_⟩; have HB5 := Aside0.mk (below_step HB4.out hd.below); have HS5 := Aside0.mk (blk_below HS4.out hd.below); have HT8 := Aside0.mk (Kd.R_below HR8.out hd.below); have HX5 := Aside0.mk (Kd.R_below HX4.out hd.below); clear hd))
    clear HB4 HS4 HR8 HX4 ZhP
    obtain ⟨ad, hA, x8⟩ := Kd.at_int (Kd.R_reads' HX5.out).2.2 8 (by omega) (by have := ZhX.out; omega)
    subst hA
    obtain ⟨ad', he, x9⟩ := Kd.at_int (Kd.R_reads' HX5.out).2.2 9 (by omega) (by have := ZhX.out; omega)
    cases he
    obtain ⟨p8, hp8⟩ : ∃ y, rd X 8 = y := ⟨_, rfl⟩
    obtain ⟨p9, hp9⟩ : ∃ y, rd X 9 = y := ⟨_, rfl⟩
    have hb8 := Zh8.out
    have hb9 := Zh9.out
    have hsm := Zhm.out
    rw [hp8] at x8 hb8 hsm
    rw [hp9] at x9 hb9 hsm
    simp only [Int.reduceToNat] at x8 x9
    have x8' : w5.cell? ⟨ad.block, ad.off + 8, none⟩ = some (.int .u8 p8) := x8
    have x9' : w5.cell? ⟨ad.block, ad.off + 9, none⟩ = some (.int .u8 p9) := x9
    have hx0 : 8 < X.length := by have := ZhX.out; omega
    have hx1 : 9 < X.length := by have := ZhX.out; omega
    have hx0i : (8 : Int) < (X.length : Int) := by omega
    have hx1i : (9 : Int) < (X.length : Int) := by omega
    have hq2 : IntKind.i64.wrap p8 = p8 := by simp only [i64_w]; unfold wrap64; omega
    have hq3 : IntKind.i64.wrap (p8 * 256) = p8 * 256 := by simp only [i64_w]; unfold wrap64; omega
    have hq4 : IntKind.i64.wrap p9 = p9 := by simp only [i64_w]; unfold wrap64; omega
    have t2 : w5.cell? ⟨g, 2, none⟩ = some (.int .i64 wn) := (blk_cell HS5.out 2).trans rfl
    clear hp8 hp9 hb8 hb9 Zh8 Zh9 Zhm
    go_cut [15, 16] (fun v15 v16 wc => v15 = .int .i64 sm2 ∧ v16 = .int .i64 0 ∧ Aside0 (Below w5.heap.size w5 wc))
    case first =>
      go_region_law (first
        | (refine goesW_ Try.func18 (by kernel_rfl) rfl #[.int .i64 sm, .int .i64 wn, .int .i64 v] rfl rfl rfl rfl (by (try simp only [List.map_toArray, List.map_cons, List.map_nil]); first | done | rfl) ?_; refine (inet_Update.calls k sm wn v sm2 0 w5.drew ZhU.out).mono ?_; rintro e w6 ⟨rfl, hb0⟩; refine ⟨_, rfl, ?_⟩; have hb : Below w5.heap.size w5 w6 := (Below.refl _ w5).drew.trans hb0; have HB6 := Aside0.mk hb; clear hb hb0))
      all_goals
        go_wp2
        go_meet
        case rel => exact ⟨rfl, rfl, HB6⟩
    case rest =>
    obtain ⟨rfl, rfl, hcut⟩ := hcut
    obtain ⟨w6, hw6⟩ : ∃ y : World, y = wc := ⟨_, rfl⟩
    subst hw6
    have HB6 := Aside0.mk (below_step HB5.out hcut.out)
    have HS6 := Aside0.mk (blk_below HS5.out hcut.out)
    have HV8 := Aside0.mk (Kd.R_below HT8.out hcut.out)
    have HX6 := Aside0.mk (Kd.R_below HX5.out hcut.out)
    clear hcut x8 x9 x8' x9' t2 hsm hq2 hq3 hq4 HB5 HS5 HT8 HX5 ZhU
    go_upto_region 10 with (first
      | ((with_reducible refine gate_builtin (b := .append) (xs := #[.const (.slice none 0 0), .tmp 65]) rfl ?_); at_builtin; refine Kd.R_append_rows (Kd.int .u8) (w0 := w6) w6.heap.size rfl (.const (.slice none 0 0)) (.tmp 65) 23 5 (.int .u8 0) 1 rfl Try.underlying23 info5 rfl (by decide) (by omega) (.slice none 0 0) ([] : List Int) X _ _ _ (fun _ => True) (fun _ => False) rfl rfl ?aO ?aR (fun _ _ h => h) (fun _ h => h.elim) ?aF ?aB ?aS ?aL ?_; (case aR => exact (Kd.R_reads' HX6.out).2.2); (case aB => exact Below.refl _ _); (case aF => exact (fun _ _ => trivial)); (case aO => exact Kd.R_nil _ _ _ _ _); (case aS => exact Nat.le_refl _); (case aL => have := ZhX.out; simp; omega); intro vY w7 ho hb hg hat; rw [List.nil_append] at ho; have HOY := Aside0.mk ho; have HB7 := Aside0.mk (below_step HB6.out hb); have HBY := Aside0.mk hb; have HS7 := Aside0.mk (blk_below HS6.out hb); have HW8 := Aside0.mk (Kd.R_below HV8.out hb); clear ho hb hg hat; obtain ⟨gy, cY, eY, hgy, hgl, _⟩ := Kd.R_form HOY.out (by have := ZhX.out; omega); subst eY))
    obtain ⟨k4, z4⟩ := Kd.R_celln 0 HOY.out 4 (by omega) (by omega)
    obtain ⟨k5, z5⟩ := Kd.R_celln 0 HOY.out 5 (by omega) (by omega)
    obtain ⟨k8, z8⟩ := Kd.R_celln 0 HOY.out 8 (by omega) (by omega)
    obtain ⟨k9, z9⟩ := Kd.R_celln 0 HOY.out 9 (by omega) (by omega)
    simp only [Int.reduceToNat] at k4 z4 k5 z5 k8 z8 k9 z9
    have hx4 : 4 < X.length := by omega
    have hx5 : 5 < X.length := by omega
    have HGY := Aside0.mk hgy
    clear hgy
    go_upto_region 14 with (fail)
    have hy4 := (Kd.R_putg HOY.out 4 (v / 256 % 256)).1
    have hy5 := (Kd.R_putg hy4 5 (v % 256)).1
    have hy8 := (Kd.R_putg hy5 8 (sm2 / 256 % 256)).1
    have hy9 := (Kd.R_putg hy8 9 (sm2 % 256)).1
    have hbb : Below w6.heap.size w6 ((((w7.setCell ⟨gy, 4, none⟩ (.int .u8 (v / 256 % 256))).setCell ⟨gy, 5, none⟩ (.int .u8 (v % 256))).setCell ⟨gy, 8, none⟩ (.int .u8 (sm2 / 256 % 256))).setCell ⟨gy, 9, none⟩ (.int .u8 (sm2 % 256))) := blw_set (blw_set (blw_set (blw_set HBY.out HGY.out 4 _) HGY.out 5 _) HGY.out 8 _) HGY.out 9 _
    obtain ⟨w8, hw8⟩ : ∃ y, ((((w7.setCell ⟨gy, 4, none⟩ (.int .u8 (v / 256 % 256))).setCell ⟨gy, 5, none⟩ (.int .u8 (v % 256))).setCell ⟨gy, 8, none⟩ (.int .u8 (sm2 / 256 % 256))).setCell ⟨gy, 9, none⟩ (.int .u8 (sm2 % 256))) = y := ⟨_, rfl⟩
    have HY8 : Aside0 (Kd.R (Kd.int .u8) 5 w8 w6.heap.size (fun _ => True) (.slice (some ⟨gy, 0, none⟩) X.length cY) ((((X.set 4 (v / 256 % 256)).set 5 (v % 256)).set 8 (sm2 / 256 % 256)).set 9 (sm2 % 256))) := ⟨by rw [← hw8]; exact hy9⟩
    have HB8' : Aside0 (Below w6.heap.size w6 w8) := ⟨by rw [← hw8]; exact hbb⟩
    rw [hw8]
    clear hw8 hbb hy4 hy5 hy8 hy9 k4 k5 k8 k9 z4 z5 z8 z9 HBY
    have HB8 := Aside0.mk (below_step HB6.out HB8'.out)
    have HS8 := Aside0.mk (blk_below HS6.out HB8'.out)
    have HG8 := Aside0.mk (Kd.R_below HV8.out HB8'.out)
    obtain ⟨Y, hY⟩ : ∃ y, ((((X.set 4 (v / 256 % 256)).set 5 (v % 256)).set 8 (sm2 / 256 % 256)).set 9 (sm2 % 256)) = y := ⟨_, rfl⟩
    have hYl : Y.length = X.length := by rw [← hY]; simp only [List.length_set]
    have HD := Aside0.mk ZhD.out
    rw [hY] at HD HY8
    have HYL := Aside0.mk hYl
    clear hY hYl ZhD HB6 HS6 HV8 HX6
    have HDC := Aside0.mk (seg_Decode.calls (some ⟨gy, 0, none⟩) cY Y s a v f3 f4 f5 f6 m7 l8 0 w8 (Kd.R_reads' HY8.out).2.2 (by first | exact (Kd.R_reads' HY8.out).2.1 | (rw [HYL.out]; exact (Kd.R_reads' HY8.out).2.1)) HD.out)
    rw [HYL.out] at HDC
    go_upto_region 15 with (first
      | ((with_reducible refine gate_callee (f := 10) rfl ?_); (try (refine gate_guard (by rfl) ?_; dsimp only)); refine goesL_ _ rfl rfl Try.func10 (by kernel_rfl) rfl #[.slice (some ⟨gy, 0, none⟩) X.length cY] rfl (by (try simp only [List.map_toArray, List.map_cons, List.map_nil]); first | done | rfl) ?_; refine (HDC.out).mono ?_; rintro e w9 ⟨v7, v8, rfl, ho7, ho8, hb⟩; refine ⟨_, rfl, ?_⟩; have HB9 := Aside0.mk (below_step HB8.out hb); have HS9 := Aside0.mk (blk_below HS8.out hb); have HJ8 := Aside0.mk (Kd.R_below HG8.out hb); have HK8 := Aside0.mk ho8; obtain ⟨B7, d7, e7⟩ := Kd.R_slice ho7; subst e7; obtain ⟨B8, d8, e8⟩ := Kd.R_slice HK8.out; subst e8; have hz := blk_new w9 (Obj.cells #[.int .i64 0, .int .i64 0, .int .i64 0, .bool false, .bool false, .bool false, .bool false, .slice none 0 0, .slice none 0 0] 26); have s0 : (w9.alloc (Obj.cells #[.int .i64 0, .int .i64 0, .int .i64 0, .bool false, .bool false, .bool false, .bool false, .slice none 0 0, .slice none 0 0] 26)).cell? ⟨w9.heap.size, 0, none⟩ = some (.int .i64 0) := (blk_cell hz 0).trans rfl; have e0 := blk_frozen hz 0; have s1 : (w9.alloc (Obj.cells #[.int .i64 0, .int .i64 0, .int .i64 0, .bool false, .bool false, .bool false, .bool false, .slice none 0 0, .slice none 0 0] 26)).cell? ⟨w9.heap.size, 1, none⟩ = some (.int .i64 0) := (blk_cell hz 1).trans rfl; have e1 := blk_frozen hz 1; have s2 : (w9.alloc (Obj.cells #[.int .i64 0, .int .i64 0, .int .i64 0, .bool false, .bool false, .bool false, .bool false, .slice none 0 0, .slice none 0 0] 26)).cell? ⟨w9.heap.size, 2, none⟩ = some (.int .i64 0) := (blk_cell hz 2).trans rfl; have e2 := blk_frozen hz 2; have s3 : (w9.alloc (Obj.cells #[.int .i64 0, .int .i64 0, .int .i64 0, .bool false, .bool false, .bool false, .bool false, .slice none 0 0, .slice none 0 0] 26)).cell? ⟨w9.heap.size, 3, none⟩ = some (.bool false) := (blk_cell hz 3).trans rfl; have e3 := blk_frozen hz 3; have s4 : (w9.alloc (Obj.cells #[.int .i64 0, .int .i64 0, .int .i64 0, .bool false, .bool false, .bool false, .bool false, .slice none 0 0, .slice none 0 0] 26)).cell? ⟨w9.heap.size, 4, none⟩ = some (.bool false) := (blk_cell hz 4).trans rfl; have e4 := blk_frozen hz 4; have s5 : (w9.alloc (Obj.cells #[.int .i64 0, .int .i64 0, .int .i64 0, .bool false, .bool false, .bool false, .bool false, .slice none 0 0, .slice none 0 0] 26)).cell? ⟨w9.heap.size, 5, none⟩ = some (.bool false) := (blk_cell hz 5).trans rfl; have e5 := blk_frozen hz 5; have s6 : (w9.alloc (Obj.cells #[.int .i64 0, .int .i64 0, .int .i64 0, .bool false, .bool false, .bool false, .bool false, .slice none 0 0, .slice none 0 0] 26)).cell? ⟨w9.heap.size, 6, none⟩ = some (.bool false) := (blk_cell hz 6).trans rfl; have e6 := blk_frozen hz 6; have s7 : (w9.alloc (Obj.cells #[.int .i64 0, .int .i64 0, .int .i64 0, .bool false, .bool false, .bool false, .bool false, .slice none 0 0, .slice none 0 0] 26)).cell? ⟨w9.heap.size, 7, none⟩ = some (.slice none 0 0) := (blk_cell hz 7).trans rfl; have e7 := blk_frozen hz 7; have s8 : (w9.alloc (Obj.cells #[.int .i64 0, .int .i64 0, .int .i64 0, .bool false, .bool false, .bool false, .bool false, .slice none 0 0, .slice none 0 0] 26)).cell? ⟨w9.heap.size, 8, none⟩ = some (.slice none 0 0) := (blk_cell hz 8).trans rfl; have e8 := blk_frozen hz 8; clear hz; clear ho7 ho8 hb))
    have HV10 := Aside0.mk (blk_new w9 (Obj.cells #[.int .i64 s, .int .i64 a, .int .i64 v, .bool f3, .bool f4, .bool f5, .bool f6, .slice B7 m7.length d7, .slice B8 l8.length d8] 26))
    have HS10 := Aside0.mk (blk_alloc HS9.out (Obj.cells #[.int .i64 s, .int .i64 a, .int .i64 v, .bool f3, .bool f4, .bool f5, .bool f6, .slice B7 m7.length d7, .slice B8 l8.length d8] 26))
    have HB10 := Aside0.mk (below_alloc HB9.out (Obj.cells #[.int .i64 s, .int .i64 a, .int .i64 v, .bool f3, .bool f4, .bool f5, .bool f6, .slice B7 m7.length d7, .slice B8 l8.length d8] 26))
    have HL8 := Aside0.mk (Kd.R_alloc HJ8.out (Obj.cells #[.int .i64 s, .int .i64 a, .int .i64 v, .bool f3, .bool f4, .bool f5, .bool f6, .slice B7 m7.length d7, .slice B8 l8.length d8] 26))
    have HM8 := Aside0.mk (Kd.R_alloc HK8.out (Obj.cells #[.int .i64 s, .int .i64 a, .int .i64 v, .bool f3, .bool f4, .bool f5, .bool f6, .slice B7 m7.length d7, .slice B8 l8.length d8] 26))
    obtain ⟨W10, hW10⟩ : ∃ y, w9.alloc (Obj.cells #[.int .i64 s, .int .i64 a, .int .i64 v, .bool f3, .bool f4, .bool f5, .bool f6, .slice B7 m7.length d7, .slice B8 l8.length d8] 26) = y := ⟨_, rfl⟩
    rw [hW10] at HV10 HS10 HB10 HL8 HM8 ⊢
    clear hW10 s0 s1 s2 s3 s4 s5 s6 s7 s8 e0 e1 e2 e3 e4 e5 e6 e7 e8 HB9 HS9 HJ8 HK8
    obtain ⟨g2, hg2⟩ : ∃ y, w9.heap.size = y := ⟨_, rfl⟩
    rw [hg2] at HV10 ⊢
    clear hg2
    have t0 : W10.cell? ⟨g, 0, none⟩ = some (.int .i64 s) := (blk_cell HS10.out 0).trans rfl
    have t1 : W10.cell? ⟨g, 1, none⟩ = some (.int .i64 a) := (blk_cell HS10.out 1).trans rfl
    have t2 : W10.cell? ⟨g, 2, none⟩ = some (.int .i64 wn) := (blk_cell HS10.out 2).trans rfl
    have t8 : W10.cell? ⟨g, 8, none⟩ = some (.slice A8 l8.length c8) := (blk_cell HS10.out 8).trans rfl
    have u0 : W10.cell? ⟨g2, 0, none⟩ = some (.int .i64 s) := (blk_cell HV10.out 0).trans rfl
    have u1 : W10.cell? ⟨g2, 1, none⟩ = some (.int .i64 a) := (blk_cell HV10.out 1).trans rfl
    have u2 : W10.cell? ⟨g2, 2, none⟩ = some (.int .i64 v) := (blk_cell HV10.out 2).trans rfl
    have u8 : W10.cell? ⟨g2, 8, none⟩ = some (.slice B8 l8.length d8) := (blk_cell HV10.out 8).trans rfl
    go_wp2_with (first
      | ((with_reducible refine gate_callee (f := 19) rfl ?_); (try (refine gate_guard (by rfl) ?_; dsimp only)); refine goesL_ _ rfl rfl Try.func19 (by kernel_rfl) rfl #[.slice B8 l8.length d8, .slice A8 l8.length c8] rfl (by (try simp only [List.map_toArray, List.map_cons, List.map_nil]); first | done | rfl) ?_; refine (packthreadtop_sameBytes.calls k B8 d8 l8 A8 c8 l8 true W10 (Kd.R_reads' HM8.out).2.2 (Kd.R_reads' HM8.out).2.1 (Kd.R_reads' HL8.out).2.2 (Kd.R_reads' HL8.out).2.1 ZhB.out).mono ?_; rintro e w11 ⟨rfl, hd⟩; refine ⟨_, rfl, ?_⟩; have HB11 := Aside0.mk (below_step HB10.out hd.below); clear hd))
    go_ret
    exact ⟨rfl, HB11.out⟩
theorem packthreadtop_TopSealed.walk (P : packthreadtop_TopSealed.Pure) (a0 : Int) (a1 : Int) (a2 : Int) (a3 : Option Addr) (len3 cap3 : Nat) (z3 : List Int) (a4 : Int) (w : World) (w0 : (Lit.int .i64 a0).wf = true) (w1 : (Lit.int .i64 a1).wf = true) (w2 : (Lit.int .i64 a2).wf = true) (w3 : (a3 = none ∧ len3 = 0 ∧ cap3 = 0 ∧ z3 = []) ∨ ∃ x, a3 = some x ∧ len3 ≤ cap3 ∧ cap3 ≤ maxLen ∧ z3.length = cap3 ∧ (∀ i, i < z3.length → w.cell? (x.add i) = some (.int .u8 (z3.getD i 0))) ∧ ∀ n ∈ z3, (Lit.int .u8 n).wf = true) (y3 : len3 * 1 ≤ 140737488351232) (w4 : (Lit.int .i64 a4).wf = true) :
    Calls Try.prog 7 #[.int .i64 a0, .int .i64 a1, .int .i64 a2, .slice a3 len3 cap3, .int .i64 a4] w fun e w' => e = .returned (.bool true) ∧ Below w.heap.size w w' := by
  obtain ⟨l3, rfl, hr3, hm3, hw3, hc3⟩ := ReadsInt.ofRowC w3
  obtain ⟨k, s, a, wn, b3, b4, b5, b6, l7, l8, X, sm, v, sm2, f3, f4, f5, f6, m7, hS, hE, hX, hF, hP, hv, h8, h9, hm, hU, hs2, hD, hB⟩ := P a0 a1 a2 l3 a4 hw3
  exact topSealed_calls k a0 a1 a2 _ _ l3 a4 s a wn b3 b4 b5 b6 l7 l8 X sm v sm2 f3 f4 f5 f6 m7 w (Kd.C_of_reads (d := (0 : Int)) (h1 := fun _ => rfl) hr3) hc3 hS hE hX hF hP hv h8 h9 hm hU hs2 hD hB

end Go.Proofs.Ytblkhkipbcpaiaa.PTopSealed
