/- Printed by a program of this session (wip/myprint.py): Go functions of the law as Lean functions, and the proof that the code comes to these answers. -/
import Derived.Test.YtblkhkipbcpaiaaPTopSealedx0
namespace Go.Proofs.Ytblkhkipbcpaiaa.PTopSealed
open Go.RowKit Go.Proofs.YtblkhkipbcpaiaaW.PrintWords Go.Proofs.YtblkhkipbcpaiaaW.PrintLast Go.Proofs.YtblkhkipbcpaiaaW.PrintMore
attribute [local go_sem] max2_int min2_int max_two min_two max_three min_three max_four min_four   -- for this text's walks alone
attribute [local go_sem] pn_setCell_drewN
set_option linter.unusedVariables false
set_option linter.unusedSimpArgs false

/-! ### packthreadkeep_Picked: function 12 -/
def packthreadkeep_Picked.f (a0 : Int) (a1 : Int) : Option (Int) := if a1 = 0 then (none) else (if (Int.tmod a0 a1) < 0 then (some (wrap64 ((Int.tmod a0 a1) + a1))) else (some (Int.tmod a0 a1)))
set_option maxHeartbeats 8000000 in
set_option maxRecDepth 100000 in
theorem packthreadkeep_Picked.calls (a0 : Int) (a1 : Int) (r : Int) (w : World) (h : packthreadkeep_Picked.f a0 a1 = some r) :
    Calls Try.prog 12 #[.int .i64 a0, .int .i64 a1] w fun e w' => e = .returned (.int .i64 r) ∧ Drawn0 w w' := by
  have H : (if a1 = 0 then (none) else (if (Int.tmod a0 a1) < 0 then (some (wrap64 ((Int.tmod a0 a1) + a1))) else (some (Int.tmod a0 a1)))) = some r := h
  clear h
  by_cases c3 : a1 = 0
  · rw [if_pos c3] at H
    exact absurd H (by simp)
  · rw [if_neg c3] at H
    have c3b0 : (a1 == 0) = false := beq_eq_false_iff_ne.mpr c3
    have c3b1 : (a1 != 0) = true := bne_iff_ne.mpr c3
    by_cases c4 : (Int.tmod a0 a1) < 0
    · rw [if_pos c4] at H
      have c4b0 : decide ((Int.tmod a0 a1) < 0) = true := decide_eq_true c4
      clear c4
      obtain rfl := Option.some.inj H
      go_enter Try.func12, Try.ntmps12
      go_wp2
      go_ret
      exact ⟨by first | rfl | (simp; done) | (simp [*]; done), by repeat (first | exact Drawn0.refl _ | apply Drawn0.step)⟩
    · rw [if_neg c4] at H
      have c4b0 : decide ((Int.tmod a0 a1) < 0) = false := decide_eq_false c4
      clear c4
      obtain rfl := Option.some.inj H
      go_enter Try.func12, Try.ntmps12
      go_wp2
      go_ret
      exact ⟨by first | rfl | (simp; done) | (simp [*]; done), by repeat (first | exact Drawn0.refl _ | apply Drawn0.step)⟩

/-! ### packthreadkeep_Octets: function 14 -/
def packthreadkeep_Octets.f (l0 : List Int) (a1 : Int) : Option (List Int) := if 0 ≤ (mn (l0.length : Int) a1) then (if (mn (l0.length : Int) a1) ≤ (l0.length : Int) then (if ([] : List Int).length + (l0.take ((mn (l0.length : Int) a1) : Int).toNat).length < 140737488355328 then (some (([] : List Int) ++ (l0.take ((mn (l0.length : Int) a1) : Int).toNat))) else (none)) else (none)) else (none)
set_option maxHeartbeats 8000000 in
set_option maxRecDepth 100000 in
theorem packthreadkeep_Octets.calls (A0 : Option Addr) (c0 : Nat) (l0 : List Int) (a1 : Int) (r : List Int) (w : World) (hr0 : Kd.C (Kd.int .u8) w A0 l0.length l0) (hc0 : l0.length ≤ c0) (h : packthreadkeep_Octets.f l0 a1 = some r) :
    Calls Try.prog 14 #[.slice A0 l0.length c0, .int .i64 a1] w fun e w' => ∃ v0_ : Value, e = .returned (v0_) ∧ Kd.R (Kd.int .u8) 5 w' w.heap.size (fun _ => True) v0_ r ∧ Below w.heap.size w w' := by
  have HR0 := Aside0.mk hr0
  have HC0 := Aside0.mk hc0
  clear hr0 hc0
  have HB := Aside0.mk (Below.refl w.heap.size w)
  have H : (if 0 ≤ (mn (l0.length : Int) a1) then (if (mn (l0.length : Int) a1) ≤ (l0.length : Int) then (if ([] : List Int).length + (l0.take ((mn (l0.length : Int) a1) : Int).toNat).length < 140737488355328 then (some (([] : List Int) ++ (l0.take ((mn (l0.length : Int) a1) : Int).toNat))) else (none)) else (none)) else (none)) = some r := h
  clear h
  obtain ⟨ji3, hji3⟩ : ∃ j_ : Int, (mn (l0.length : Int) a1) = j_ := ⟨_, rfl⟩
  replace H : (if 0 ≤ (ji3) then (if (ji3) ≤ (l0.length : Int) then (if ([] : List Int).length + (l0.take ((ji3) : Int).toNat).length < 140737488355328 then (some (([] : List Int) ++ (l0.take ((ji3) : Int).toNat))) else (none)) else (none)) else (none)) = some r := by first | (rw [hji3] at H; exact H) | (simp only [hji3] at H ⊢; exact H)
  have hji3_ : (if a1 < (l0.length : Int) then a1 else (l0.length : Int)) = ji3 := hji3
  by_cases c4 : 0 ≤ (ji3)
  · rw [if_pos c4] at H
    have c4b0 := eq_true c4
    have c4b1 : decide (0 ≤ (ji3)) = true := decide_eq_true c4
    clear c4
    by_cases c5 : (ji3) ≤ (l0.length : Int)
    · rw [if_pos c5] at H
      have c5b0 := eq_true c5
      have c5b1 : decide ((ji3) ≤ (l0.length : Int)) = true := decide_eq_true c5
      clear c5
      by_cases c6 : ([] : List Int).length + (l0.take ((ji3) : Int).toNat).length < 140737488355328
      · rw [if_pos c6] at H
        have LMc6 := Aside0.mk c6
        clear c6
        obtain ⟨y102, hy102⟩ : ∃ y_ : List Int, y_ = (([] : List Int) ++ (l0.take ((ji3) : Int).toNat)) := ⟨_, rfl⟩
        replace H : (some y102) = some r := by first | (rw [hy102]; with_reducible exact H) | (have H2_ := (Option.bind_some _ _).symm.trans H; rw [hy102]; with_reducible exact H2_) | (have H2_ := (Option.bind_some _ _).symm.trans H; with_reducible exact H2_) | with_reducible exact H | (rw [hy102]; exact H) | exact H
        have Ny102 := Aside0.mk hy102
        clear hy102
        obtain rfl := Option.some.inj H
        obtain ⟨i07, hi07, _, hsz7, _⟩ := info_parts info5
        obtain ⟨hcut7, hA7, hC7⟩ := print_take_of (P := Try.prog) (Value.int .u8) 0 23 5 .i64 Try.underlying23 hi07 hsz7 A0 c0 l0 (ji3) (of_decide_eq_true (by first | (with_reducible assumption) | assumption)) (of_decide_eq_true (by first | (with_reducible assumption) | assumption)) HC0.out
        have HR101 := Aside0.mk (Kd.C_of_reads (h1 := fun _ => rfl) (hA7 _ (Kd.reads_of_C HR0.out)))
        have HC101 := Aside0.mk hC7
        clear hA7 hC7 hi07 hsz7
        go_enter Try.func14, Try.ntmps14
        go_wp2_with (first | ((with_reducible refine gate_builtin (b := .append) (xs := #[.const (.slice none 0 0), .tmp 10]) rfl ?_); at_builtin; refine Kd.R_append_rows (Kd.int .u8) (w0 := w) w.heap.size rfl (.const (.slice none 0 0)) (.tmp 10) 23 5 (.int .u8 0) 1 rfl Try.underlying23 info5 rfl (by decide) (by omega) (.slice none 0 0) ([] : List Int) (l0.take ((ji3) : Int).toNat) _ _ _ (fun _ => True) (fun _ => False) rfl rfl ?aO ?aR (fun _ _ h => h) (fun _ h => h.elim) ?aF ?aB ?aS ?aL ?_; (case aR => first | (refine rr_len_ (show (l0.take ((ji3) : Int).toNat).length = (ji3).toNat from (by rw [List.length_take]; have h_ : ((ji3) : Int) ≤ (l0.length : Int) := of_decide_eq_true (by first | (with_reducible assumption) | assumption); omega)) ?_; repeat (first | exact HR101.out | (with_reducible refine Kd.C_alloc ?_ _) | (with_reducible refine Kd.C_drewN ?_ _) | (with_reducible refine Kd.C_drew ?_))) | (rw [← show (l0.take ((ji3) : Int).toNat).length = (ji3).toNat from (by rw [List.length_take]; have h_ : ((ji3) : Int) ≤ (l0.length : Int) := of_decide_eq_true (by first | (with_reducible assumption) | assumption); omega)]; repeat (first | exact HR101.out | (with_reducible refine Kd.C_alloc ?_ _) | (with_reducible refine Kd.C_drewN ?_ _) | (with_reducible refine Kd.C_drew ?_))) | (repeat (first | exact HR101.out | (with_reducible refine Kd.C_alloc ?_ _) | (with_reducible refine Kd.C_drewN ?_ _) | (with_reducible refine Kd.C_drew ?_)))); (case aB => exact (by repeat (first | (with_reducible first | exact HB.out | apply below_alloc | apply pw_below_drewN | apply below_drew1) | exact HB.out))); (case aF => exact (fun _ _ => trivial)); (case aO => exact ((Kd.R_nil _ _ _ _ (fun _ => True)))); (case aS => exact (below_size (by repeat (first | (with_reducible first | exact HB.out | apply below_alloc | apply pw_below_drewN | apply below_drew1) | exact HB.out)))); (case aL => have := LMc6.out; have hlx_ := (show (l0.take ((ji3) : Int).toNat).length = (ji3).toNat from (by rw [List.length_take]; have h_ : ((ji3) : Int) ≤ (l0.length : Int) := of_decide_eq_true (by first | (with_reducible assumption) | assumption); omega)); omega); intro v103 w8 ho hb hg hat; rw [← Ny102.out] at ho; have n0_ := Aside0.mk (hb); have n1_ := Aside0.mk (ho); clear HB; have HB := n0_; have HO104 := n1_; clear n0_ n1_; clear ho hb hg hat))
        go_ret
        exact ⟨_, by first | rfl | (simp [errW_none, errW_some] <;> rfl) | (simp only [← hji3]; first | rfl | (simp [errW_none, errW_some] <;> rfl)) | (simp [*, errW_none, errW_some] <;> rfl), by (with_reducible repeat (first | apply Kd.R_alloc | apply Kd.R_drewN | apply Kd.R_drew)); exact HO104.out, by repeat (first | (with_reducible first | exact HB.out | apply below_alloc | apply pw_below_drewN | apply below_drew1) | exact HB.out)⟩
      · rw [if_neg c6] at H
        exact absurd H (by simp)
    · rw [if_neg c5] at H
      exact absurd H (by simp)
  · rw [if_neg c4] at H
    exact absurd H (by simp)

/-! ### packthreadkeep_Seg: function 8, by hand -/
theorem goesW_ {P : Program} {oi : Oper} {N : Option Tmp} {a : Act} {w : World} {K : Act → World → Prop} {Q : Exit → Act → World → Prop} {f : FuncId} {fn : Func} {x : Operand} {ars : Array Operand} {caps : Array Value} {ts : Array TypeId} (hf : P.funcs[f]? = some fn) (hname : (fn.name == "runtime.NumGoroutine") = false) (hb : fn.body.isSome = true) (args : Array Value) {ops : Array Oper}
    (hw : Region.wanted oi (yielded ops a.tmps) = true) (hN : oi.dst = N) (hop : oi.op = .call { callee := .value x, args := ars, argTypes := ts }) (hx : a.eval x = .func (.func f) #[] caps) (hargs : ars.map a.eval ++ caps = args)
    (h : Calls P f args w fun e w' => ∃ v, e = .returned v ∧ K (a.put N v) w') : if Region.wanted oi (yielded ops a.tmps) = true then Oper.wp P oi a w K Q else K (a.put N undef) w := by
  refine call_ f args hw hN ?_ h
  have he := enters_ hf hname hb args w
  unfold execOp
  simp [hop, resolve, Deferred.ofValue, invoke, hx, ← hargs] at he ⊢
  simp [he]
def put9 (W : World) (g : Nat) (v0 v1 v2 v3 v4 v5 v6 v7 v8 : Value) : World := (((((((((W.setCell ⟨g, 0, none⟩ v0).setCell ⟨g, 1, none⟩ v1).setCell ⟨g, 2, none⟩ v2).setCell ⟨g, 3, none⟩ v3).setCell ⟨g, 4, none⟩ v4).setCell ⟨g, 5, none⟩ v5).setCell ⟨g, 6, none⟩ v6).setCell ⟨g, 7, none⟩ v7).setCell ⟨g, 8, none⟩ v8)
theorem put9_eq (W : World) (g : Nat) (v0 v1 v2 v3 v4 v5 v6 v7 v8 : Value) : (((((((((W.setCell ⟨g, 0, none⟩ v0).setCell ⟨g, 1, none⟩ v1).setCell ⟨g, 2, none⟩ v2).setCell ⟨g, 3, none⟩ v3).setCell ⟨g, 4, none⟩ v4).setCell ⟨g, 5, none⟩ v5).setCell ⟨g, 6, none⟩ v6).setCell ⟨g, 7, none⟩ v7).setCell ⟨g, 8, none⟩ v8) = put9 W g v0 v1 v2 v3 v4 v5 v6 v7 v8 := rfl
theorem put9_blk {W : World} {g t : Nat} {c0 c1 c2 c3 c4 c5 c6 c7 c8 : Value} (h : W.heap[g]? = some (.cells #[c0, c1, c2, c3, c4, c5, c6, c7, c8] t (0, 0))) (v0 v1 v2 v3 v4 v5 v6 v7 v8 : Value) : (put9 W g v0 v1 v2 v3 v4 v5 v6 v7 v8).heap[g]? = some (.cells #[v0, v1, v2, v3, v4, v5, v6, v7, v8] t (0, 0)) := by
  unfold put9
  have h0 : (W.setCell ⟨g, 0, none⟩ v0).heap[g]? = some (.cells #[v0, c1, c2, c3, c4, c5, c6, c7, c8] t (0, 0)) := blk_put h 0 v0 rfl
  have h1 : ((W.setCell ⟨g, 0, none⟩ v0).setCell ⟨g, 1, none⟩ v1).heap[g]? = some (.cells #[v0, v1, c2, c3, c4, c5, c6, c7, c8] t (0, 0)) := blk_put h0 1 v1 rfl
  have h2 : (((W.setCell ⟨g, 0, none⟩ v0).setCell ⟨g, 1, none⟩ v1).setCell ⟨g, 2, none⟩ v2).heap[g]? = some (.cells #[v0, v1, v2, c3, c4, c5, c6, c7, c8] t (0, 0)) := blk_put h1 2 v2 rfl
  have h3 : ((((W.setCell ⟨g, 0, none⟩ v0).setCell ⟨g, 1, none⟩ v1).setCell ⟨g, 2, none⟩ v2).setCell ⟨g, 3, none⟩ v3).heap[g]? = some (.cells #[v0, v1, v2, v3, c4, c5, c6, c7, c8] t (0, 0)) := blk_put h2 3 v3 rfl
  have h4 : (((((W.setCell ⟨g, 0, none⟩ v0).setCell ⟨g, 1, none⟩ v1).setCell ⟨g, 2, none⟩ v2).setCell ⟨g, 3, none⟩ v3).setCell ⟨g, 4, none⟩ v4).heap[g]? = some (.cells #[v0, v1, v2, v3, v4, c5, c6, c7, c8] t (0, 0)) := blk_put h3 4 v4 rfl
  have h5 : ((((((W.setCell ⟨g, 0, none⟩ v0).setCell ⟨g, 1, none⟩ v1).setCell ⟨g, 2, none⟩ v2).setCell ⟨g, 3, none⟩ v3).setCell ⟨g, 4, none⟩ v4).setCell ⟨g, 5, none⟩ v5).heap[g]? = some (.cells #[v0, v1, v2, v3, v4, v5, c6, c7, c8] t (0, 0)) := blk_put h4 5 v5 rfl
  have h6 : (((((((W.setCell ⟨g, 0, none⟩ v0).setCell ⟨g, 1, none⟩ v1).setCell ⟨g, 2, none⟩ v2).setCell ⟨g, 3, none⟩ v3).setCell ⟨g, 4, none⟩ v4).setCell ⟨g, 5, none⟩ v5).setCell ⟨g, 6, none⟩ v6).heap[g]? = some (.cells #[v0, v1, v2, v3, v4, v5, v6, c7, c8] t (0, 0)) := blk_put h5 6 v6 rfl
  have h7 : ((((((((W.setCell ⟨g, 0, none⟩ v0).setCell ⟨g, 1, none⟩ v1).setCell ⟨g, 2, none⟩ v2).setCell ⟨g, 3, none⟩ v3).setCell ⟨g, 4, none⟩ v4).setCell ⟨g, 5, none⟩ v5).setCell ⟨g, 6, none⟩ v6).setCell ⟨g, 7, none⟩ v7).heap[g]? = some (.cells #[v0, v1, v2, v3, v4, v5, v6, v7, c8] t (0, 0)) := blk_put h6 7 v7 rfl
  have h8 : (((((((((W.setCell ⟨g, 0, none⟩ v0).setCell ⟨g, 1, none⟩ v1).setCell ⟨g, 2, none⟩ v2).setCell ⟨g, 3, none⟩ v3).setCell ⟨g, 4, none⟩ v4).setCell ⟨g, 5, none⟩ v5).setCell ⟨g, 6, none⟩ v6).setCell ⟨g, 7, none⟩ v7).setCell ⟨g, 8, none⟩ v8).heap[g]? = some (.cells #[v0, v1, v2, v3, v4, v5, v6, v7, v8] t (0, 0)) := blk_put h7 8 v8 rfl
  exact h8
theorem blw_set {b : Nat} {w W : World} {g : Nat} (h : Below b w W) (hg : b ≤ g) (j : Nat) (v : Value) : Below b w (W.setCell ⟨g, j, none⟩ v) := h.setCell (p := ⟨g, j, none⟩) hg v
theorem put9_below {b : Nat} {w W : World} {g : Nat} (h : Below b w W) (hg : b ≤ g) (v0 v1 v2 v3 v4 v5 v6 v7 v8 : Value) : Below b w (put9 W g v0 v1 v2 v3 v4 v5 v6 v7 v8) := by
  unfold put9
  iterate 9 refine blw_set ?_ hg _ _
  exact h
theorem put9_R {α : Type} {d : Kd α} {e : TypeId} {W : World} {base : Nat} {ok : Nat → Prop} {v : Value} {xs : List α} (h : d.R e W base ok v xs) {g t : Nat} {c0 c1 c2 c3 c4 c5 c6 c7 c8 : Value} (hb : W.heap[g]? = some (.cells #[c0, c1, c2, c3, c4, c5, c6, c7, c8] t (0, 0))) (ht : ∀ q, q ∈ e :: d.E → q ≠ t) (v0 v1 v2 v3 v4 v5 v6 v7 v8 : Value) : d.R e (put9 W g v0 v1 v2 v3 v4 v5 v6 v7 v8) base ok v xs := by
  unfold put9
  have r0 := Kd.R_set h hb ht 0 v0
  have h0 : (W.setCell ⟨g, 0, none⟩ v0).heap[g]? = some (.cells #[v0, c1, c2, c3, c4, c5, c6, c7, c8] t (0, 0)) := blk_put hb 0 v0 rfl
  have r1 := Kd.R_set r0 h0 ht 1 v1
  have h1 : ((W.setCell ⟨g, 0, none⟩ v0).setCell ⟨g, 1, none⟩ v1).heap[g]? = some (.cells #[v0, v1, c2, c3, c4, c5, c6, c7, c8] t (0, 0)) := blk_put h0 1 v1 rfl
  have r2 := Kd.R_set r1 h1 ht 2 v2
  have h2 : (((W.setCell ⟨g, 0, none⟩ v0).setCell ⟨g, 1, none⟩ v1).setCell ⟨g, 2, none⟩ v2).heap[g]? = some (.cells #[v0, v1, v2, c3, c4, c5, c6, c7, c8] t (0, 0)) := blk_put h1 2 v2 rfl
  have r3 := Kd.R_set r2 h2 ht 3 v3
  have h3 : ((((W.setCell ⟨g, 0, none⟩ v0).setCell ⟨g, 1, none⟩ v1).setCell ⟨g, 2, none⟩ v2).setCell ⟨g, 3, none⟩ v3).heap[g]? = some (.cells #[v0, v1, v2, v3, c4, c5, c6, c7, c8] t (0, 0)) := blk_put h2 3 v3 rfl
  have r4 := Kd.R_set r3 h3 ht 4 v4
  have h4 : (((((W.setCell ⟨g, 0, none⟩ v0).setCell ⟨g, 1, none⟩ v1).setCell ⟨g, 2, none⟩ v2).setCell ⟨g, 3, none⟩ v3).setCell ⟨g, 4, none⟩ v4).heap[g]? = some (.cells #[v0, v1, v2, v3, v4, c5, c6, c7, c8] t (0, 0)) := blk_put h3 4 v4 rfl
  have r5 := Kd.R_set r4 h4 ht 5 v5
  have h5 : ((((((W.setCell ⟨g, 0, none⟩ v0).setCell ⟨g, 1, none⟩ v1).setCell ⟨g, 2, none⟩ v2).setCell ⟨g, 3, none⟩ v3).setCell ⟨g, 4, none⟩ v4).setCell ⟨g, 5, none⟩ v5).heap[g]? = some (.cells #[v0, v1, v2, v3, v4, v5, c6, c7, c8] t (0, 0)) := blk_put h4 5 v5 rfl
  have r6 := Kd.R_set r5 h5 ht 6 v6
  have h6 : (((((((W.setCell ⟨g, 0, none⟩ v0).setCell ⟨g, 1, none⟩ v1).setCell ⟨g, 2, none⟩ v2).setCell ⟨g, 3, none⟩ v3).setCell ⟨g, 4, none⟩ v4).setCell ⟨g, 5, none⟩ v5).setCell ⟨g, 6, none⟩ v6).heap[g]? = some (.cells #[v0, v1, v2, v3, v4, v5, v6, c7, c8] t (0, 0)) := blk_put h5 6 v6 rfl
  have r7 := Kd.R_set r6 h6 ht 7 v7
  have h7 : ((((((((W.setCell ⟨g, 0, none⟩ v0).setCell ⟨g, 1, none⟩ v1).setCell ⟨g, 2, none⟩ v2).setCell ⟨g, 3, none⟩ v3).setCell ⟨g, 4, none⟩ v4).setCell ⟨g, 5, none⟩ v5).setCell ⟨g, 6, none⟩ v6).setCell ⟨g, 7, none⟩ v7).heap[g]? = some (.cells #[v0, v1, v2, v3, v4, v5, v6, v7, c8] t (0, 0)) := blk_put h6 7 v7 rfl
  have r8 := Kd.R_set r7 h7 ht 8 v8
  have h8 : (((((((((W.setCell ⟨g, 0, none⟩ v0).setCell ⟨g, 1, none⟩ v1).setCell ⟨g, 2, none⟩ v2).setCell ⟨g, 3, none⟩ v3).setCell ⟨g, 4, none⟩ v4).setCell ⟨g, 5, none⟩ v5).setCell ⟨g, 6, none⟩ v6).setCell ⟨g, 7, none⟩ v7).setCell ⟨g, 8, none⟩ v8).heap[g]? = some (.cells #[v0, v1, v2, v3, v4, v5, v6, v7, v8] t (0, 0)) := blk_put h7 8 v8 rfl
  exact r8

theorem blk_under {W : World} {g g' : Nat} {o : Obj} (h : W.heap[g]? = some o) (hlt : g < g') (j : Nat) (u : Value) : (W.setCell ⟨g', j, none⟩ u).heap[g]? = some o := (((Below.refl g' W).setCell (p := ⟨g', j, none⟩) (Nat.le_refl _) u).block g hlt).trans h
attribute [local go_sem] pn_setCell_drewN
theorem pick_eq (a n : Int) (h0 : 0 < n) (h1 : n ≤ 1000000000000) : packthreadkeep_Picked.f a n = some (a % n) := by
  unfold packthreadkeep_Picked.f
  rw [if_neg (by omega)]
  have hm := Int.tmod_eq_emod (a := a) (b := n)
  have hlo := Int.emod_nonneg a (show n ≠ 0 by omega)
  have hhi := Int.emod_lt_of_pos a h0
  by_cases hc : 0 ≤ a ∨ n ∣ a
  · rw [if_pos hc] at hm
    have e : a.tmod n = a % n := by rw [hm]; simp
    rw [e, if_neg (by omega)]
  · rw [if_neg hc] at hm
    have e : a.tmod n = a % n - n := by rw [hm]; congr 1; omega
    rw [e, if_pos (by omega)]
    congr 1; unfold wrap64; omega
theorem oct_eq (l : List Int) : packthreadkeep_Octets.f l 64 = some (l.take 64) := by
  unfold packthreadkeep_Octets.f
  have h : (mn (l.length : Int) 64).toNat = min l.length 64 := by unfold mn; split <;> omega
  have h0 : 0 ≤ mn (l.length : Int) 64 := by unfold mn; split <;> omega
  have h1 : mn (l.length : Int) 64 ≤ l.length := by unfold mn; split <;> omega
  rw [if_pos h0, if_pos h1, h, if_pos (by rw [List.length_take]; simp; omega), List.nil_append]
  congr 1
  rcases Nat.le_total l.length 64 with h | h
  · rw [Nat.min_eq_left h, List.take_length, List.take_of_length_le h]
  · rw [Nat.min_eq_right h]
def fb (a3 : Int) (m : Int) : Bool := decide (0 < Go.bits .and .i64 (a3 % 16) m)
def sk (l : List Int) (n : Nat) : List S52 := (List.range n).map fun (j : Nat) => ⟨rd l ((2 * j : Nat) : Int) % 65536, rd l (((2 * j : Nat) : Int) + 1) % 65536⟩
def packthreadkeep_Seg.f (a0 : Int) (a1 : Int) (a2 : Int) (a3 : Int) (l4 : List Int) (l5 : List Int) : Option (Int × Int × Int × Bool × Bool × Bool × Bool × (List (S52)) × List Int) :=
  if fb a3 8 = true then some (a0 % 65536, a1 % 65536, a2 % 65536, fb a3 1, fb a3 2, fb a3 4, true, sk l4 (min 3 (l4.length / 2)), l5.take 64)
  else some (a0 % 65536, 0, 0, fb a3 1, fb a3 2, fb a3 4, false, [], l5.take 64)
set_option maxHeartbeats 8000000 in
set_option maxRecDepth 100000 in
theorem packthreadkeep_Seg.calls (a0 : Int) (a1 : Int) (a2 : Int) (a3 : Int) (A4 : Option Addr) (c4 : Nat) (l4 : List Int) (A5 : Option Addr) (c5 : Nat) (l5 : List Int) (r1 : Int) (r2 : Int) (r3 : Int) (r4 : Bool) (r5 : Bool) (r6 : Bool) (r7 : Bool) (r8 : List (S52)) (r9 : List Int) (w : World) (hr4 : Kd.C (Kd.int .i64) w A4 l4.length l4) (hc4 : l4.length ≤ c4) (hr5 : Kd.C (Kd.int .u8) w A5 l5.length l5) (hc5 : l5.length ≤ c5) (h : packthreadkeep_Seg.f a0 a1 a2 a3 l4 l5 = some (r1, r2, r3, r4, r5, r6, r7, r8, r9)) :
    Calls Try.prog 8 #[.int .i64 a0, .int .i64 a1, .int .i64 a2, .int .i64 a3, .slice A4 l4.length c4, .slice A5 l5.length c5] w fun e w' => ∃ v7_ v8_ : Value, e = .returned (.agg #[.int .i64 r1, .int .i64 r2, .int .i64 r3, .bool r4, .bool r5, .bool r6, .bool r7, v7_, v8_]) ∧ Kd.R k52 52 w' w.heap.size (fun _ => True) v7_ r8 ∧ Kd.R (Kd.int .u8) 5 w' w.heap.size (fun _ => True) v8_ r9 ∧ Below w.heap.size w w' := by
  have hu26 := Try.underlying26
  have hu52 := Try.underlying52
  have HH := Aside0.mk h
  have HR4 := Aside0.mk hr4
  have HR5 := Aside0.mk hr5
  have HC4 := Aside0.mk hc4
  have HC5 := Aside0.mk hc5
  have HL5 := Aside0.mk (show packthreadkeep_Octets.f l5 64 = some (l5.take 64) from oct_eq l5)
  clear h hr4 hr5 hc4 hc5
  obtain ⟨fl, hfl⟩ : ∃ y, a3 % 16 = y := ⟨_, rfl⟩
  have HFL := Aside0.mk hfl
  have HF := Aside0.mk (show packthreadkeep_Picked.f a3 16 = some fl by rw [← hfl]; exact pick_eq a3 16 (by omega) (by omega))
  clear hfl
  obtain ⟨q0, hq0⟩ : ∃ y, a0 % 65536 = y := ⟨_, rfl⟩
  have HQ0 := Aside0.mk hq0
  have HP0 := Aside0.mk (show packthreadkeep_Picked.f a0 65536 = some q0 by rw [← hq0]; exact pick_eq a0 65536 (by omega) (by omega))
  clear hq0
  obtain ⟨ld, hld⟩ : ∃ y, l5.take 64 = y := ⟨_, rfl⟩
  have HLD := Aside0.mk hld
  rw [hld] at HL5
  clear hld
  go_enter Try.func8, Try.ntmps8
  go_upto_region 1 with (fail)
  have hz0 := blk_new w (Obj.cells #[.int .i64 0, .int .i64 0, .int .i64 0, .bool false, .bool false, .bool false, .bool false, .slice none 0 0, .slice none 0 0] 26)
  have hb0 : Below w.heap.size w (w.alloc (Obj.cells #[.int .i64 0, .int .i64 0, .int .i64 0, .bool false, .bool false, .bool false, .bool false, .slice none 0 0, .slice none 0 0] 26)) := below_alloc (Below.refl _ _) _
  obtain ⟨W0, hW0⟩ : ∃ y, w.alloc (Obj.cells #[.int .i64 0, .int .i64 0, .int .i64 0, .bool false, .bool false, .bool false, .bool false, .slice none 0 0, .slice none 0 0] 26) = y := ⟨_, rfl⟩
  rw [hW0] at hz0 hb0 ⊢
  have HZ0 := Aside0.mk hz0
  have HB0 := Aside0.mk hb0
  clear hz0 hb0 hW0
  go_upto_region 2 with (first
    | ((with_reducible refine gate_callee (f := 12) rfl ?_); refine goesL_ _ rfl rfl Try.func12 (by kernel_rfl) rfl #[.int .i64 a3, .int .i64 16] rfl (by (try simp only [List.map_toArray, List.map_cons, List.map_nil]); first | done | rfl) ?_; refine (packthreadkeep_Picked.calls a3 16 fl W0 HF.out).mono ?_; rintro e w1 ⟨rfl, hd⟩; refine ⟨_, rfl, ?_⟩; have HB1 : Aside0 (Below w.heap.size w w1) := ⟨below_step HB0.out hd.below⟩; have HZ1 := Aside0.mk (blk_below HZ0.out hd.below); clear hd))
  go_upto_region 3 with (first
    | ((with_reducible refine gate_callee (f := 12) rfl ?_); refine goesL_ _ rfl rfl Try.func12 (by kernel_rfl) rfl #[.int .i64 a0, .int .i64 65536] rfl (by (try simp only [List.map_toArray, List.map_cons, List.map_nil]); first | done | rfl) ?_; refine (packthreadkeep_Picked.calls a0 65536 q0 w1 HP0.out).mono ?_; rintro e w2 ⟨rfl, hd⟩; refine ⟨_, rfl, ?_⟩; have HB2 : Aside0 (Below w.heap.size w w2) := ⟨below_step HB1.out hd.below⟩; have HZ2 := Aside0.mk (blk_below HZ1.out hd.below); clear hd)
    | ((with_reducible refine gate_callee (f := 14) rfl ?_); refine goesL_ _ rfl rfl Try.func14 (by kernel_rfl) rfl #[.slice A5 l5.length c5, .int .i64 64] rfl (by (try simp only [List.map_toArray, List.map_cons, List.map_nil]); first | done | rfl) ?_; refine (packthreadkeep_Octets.calls A5 c5 l5 64 ld w2 (Kd.C_below HR5.out HB2.out) HC5.out HL5.out).mono ?_; rintro e w3 ⟨v8, rfl, ho, hb⟩; refine ⟨_, rfl, ?_⟩; have HB3 : Aside0 (Below w.heap.size w w3) := ⟨below_step HB2.out hb⟩; have HZ3 := Aside0.mk (blk_below HZ2.out hb); have HO8 := Aside0.mk (Kd.R_lower ho HB2.out.size); obtain ⟨A8, c8, e8⟩ := Kd.R_slice HO8.out; subst e8; have hz := blk_new w3 (Obj.cells #[.int .i64 0, .int .i64 0, .int .i64 0, .bool false, .bool false, .bool false, .bool false, .slice none 0 0, .slice none 0 0] 26); have s0 : (w3.alloc (Obj.cells #[.int .i64 0, .int .i64 0, .int .i64 0, .bool false, .bool false, .bool false, .bool false, .slice none 0 0, .slice none 0 0] 26)).cell? ⟨w3.heap.size, 0, none⟩ = some (.int .i64 0) := (blk_cell hz 0).trans rfl; have e0 := blk_frozen hz 0; have s1 : (w3.alloc (Obj.cells #[.int .i64 0, .int .i64 0, .int .i64 0, .bool false, .bool false, .bool false, .bool false, .slice none 0 0, .slice none 0 0] 26)).cell? ⟨w3.heap.size, 1, none⟩ = some (.int .i64 0) := (blk_cell hz 1).trans rfl; have e1 := blk_frozen hz 1; have s2 : (w3.alloc (Obj.cells #[.int .i64 0, .int .i64 0, .int .i64 0, .bool false, .bool false, .bool false, .bool false, .slice none 0 0, .slice none 0 0] 26)).cell? ⟨w3.heap.size, 2, none⟩ = some (.int .i64 0) := (blk_cell hz 2).trans rfl; have e2 := blk_frozen hz 2; have s3 : (w3.alloc (Obj.cells #[.int .i64 0, .int .i64 0, .int .i64 0, .bool false, .bool false, .bool false, .bool false, .slice none 0 0, .slice none 0 0] 26)).cell? ⟨w3.heap.size, 3, none⟩ = some (.bool false) := (blk_cell hz 3).trans rfl; have e3 := blk_frozen hz 3; have s4 : (w3.alloc (Obj.cells #[.int .i64 0, .int .i64 0, .int .i64 0, .bool false, .bool false, .bool false, .bool false, .slice none 0 0, .slice none 0 0] 26)).cell? ⟨w3.heap.size, 4, none⟩ = some (.bool false) := (blk_cell hz 4).trans rfl; have e4 := blk_frozen hz 4; have s5 : (w3.alloc (Obj.cells #[.int .i64 0, .int .i64 0, .int .i64 0, .bool false, .bool false, .bool false, .bool false, .slice none 0 0, .slice none 0 0] 26)).cell? ⟨w3.heap.size, 5, none⟩ = some (.bool false) := (blk_cell hz 5).trans rfl; have e5 := blk_frozen hz 5; have s6 : (w3.alloc (Obj.cells #[.int .i64 0, .int .i64 0, .int .i64 0, .bool false, .bool false, .bool false, .bool false, .slice none 0 0, .slice none 0 0] 26)).cell? ⟨w3.heap.size, 6, none⟩ = some (.bool false) := (blk_cell hz 6).trans rfl; have e6 := blk_frozen hz 6; have s7 : (w3.alloc (Obj.cells #[.int .i64 0, .int .i64 0, .int .i64 0, .bool false, .bool false, .bool false, .bool false, .slice none 0 0, .slice none 0 0] 26)).cell? ⟨w3.heap.size, 7, none⟩ = some (.slice none 0 0) := (blk_cell hz 7).trans rfl; have e7 := blk_frozen hz 7; have s8 : (w3.alloc (Obj.cells #[.int .i64 0, .int .i64 0, .int .i64 0, .bool false, .bool false, .bool false, .bool false, .slice none 0 0, .slice none 0 0] 26)).cell? ⟨w3.heap.size, 8, none⟩ = some (.slice none 0 0) := (blk_cell hz 8).trans rfl; have e8 := blk_frozen hz 8; clear hb ho hz))
  obtain ⟨b1, hb1⟩ : ∃ y, decide (0 < Go.bits .and .i64 fl 1) = y := ⟨_, rfl⟩
  obtain ⟨b2, hb2⟩ : ∃ y, decide (0 < Go.bits .and .i64 fl 2) = y := ⟨_, rfl⟩
  obtain ⟨b4, hb4⟩ : ∃ y, decide (0 < Go.bits .and .i64 fl 4) = y := ⟨_, rfl⟩
  obtain ⟨b8, hb8⟩ : ∃ y, decide (0 < Go.bits .and .i64 fl 8) = y := ⟨_, rfl⟩
  rw [hb1, hb2, hb4, hb8]
  have HB1_ := Aside0.mk (show fb a3 1 = b1 by unfold fb; rw [HFL.out]; exact hb1)
  have HB2_ := Aside0.mk (show fb a3 2 = b2 by unfold fb; rw [HFL.out]; exact hb2)
  have HB4_ := Aside0.mk (show fb a3 4 = b4 by unfold fb; rw [HFL.out]; exact hb4)
  have HB8_ := Aside0.mk (show fb a3 8 = b8 by unfold fb; rw [HFL.out]; exact hb8)
  clear hb1 hb2 hb4 hb8
  have HS4 := Aside0.mk (blk_new w3 (Obj.cells #[.int .i64 q0, .int .i64 0, .int .i64 0, .bool b1, .bool b2, .bool b4, .bool b8, .slice none 0 0, .slice A8 ld.length c8] 26))
  have HB4 := Aside0.mk (below_alloc (Below.refl w3.heap.size w3) (Obj.cells #[.int .i64 q0, .int .i64 0, .int .i64 0, .bool b1, .bool b2, .bool b4, .bool b8, .slice none 0 0, .slice A8 ld.length c8] 26))
  have HLT : Aside0 (w.heap.size < w3.heap.size) := ⟨blk_lt HZ3.out⟩
  obtain ⟨W4, hW4⟩ : ∃ y, w3.alloc (Obj.cells #[.int .i64 q0, .int .i64 0, .int .i64 0, .bool b1, .bool b2, .bool b4, .bool b8, .slice none 0 0, .slice A8 ld.length c8] 26) = y := ⟨_, rfl⟩
  rw [hW4] at HS4 HB4 ⊢
  clear hW4 s0 s1 s2 s3 s4 s5 s6 s7 s8 e0 e1 e2 e3 e4 e5 e6 e7 e8
  have HLE : Aside0 (w3.heap.size ≤ W4.heap.size) := ⟨HB4.out.size⟩
  clear HB2 HZ2 HB1 HZ1 HZ0 HB0 HR5 HC5 HL5 HF HP0
  have t6 : W4.cell? ⟨w3.heap.size, 6, none⟩ = some (.bool b8) := (blk_cell HS4.out 6).trans rfl
  by_cases c8b : b8 = true
  · subst c8b
    obtain ⟨q1, hq1⟩ : ∃ y, a1 % 65536 = y := ⟨_, rfl⟩
    have HQ1 := Aside0.mk hq1
    have HP1 := Aside0.mk (show packthreadkeep_Picked.f a1 65536 = some q1 by rw [← hq1]; exact pick_eq a1 65536 (by omega) (by omega))
    clear hq1
    obtain ⟨q2, hq2⟩ : ∃ y, a2 % 65536 = y := ⟨_, rfl⟩
    have HQ2 := Aside0.mk hq2
    have HP2 := Aside0.mk (show packthreadkeep_Picked.f a2 65536 = some q2 by rw [← hq2]; exact pick_eq a2 65536 (by omega) (by omega))
    clear hq2
    have hz1 := blk_frozen HS4.out 1
    have hz2 := blk_frozen HS4.out 2
    have hv1 : W4.cell? ⟨w3.heap.size, 1, none⟩ = some (.int .i64 0) := (blk_cell HS4.out 1).trans rfl
    go_upto_region 5 with (first
      | ((with_reducible refine gate_callee (f := 12) rfl ?_); refine goesL_ _ rfl rfl Try.func12 (by kernel_rfl) rfl #[.int .i64 a1, .int .i64 65536] rfl (by (try simp only [List.map_toArray, List.map_cons, List.map_nil]); first | done | rfl) ?_; refine (packthreadkeep_Picked.calls a1 65536 q1 W4 HP1.out).mono ?_; rintro e w5 ⟨rfl, hd⟩; refine ⟨_, rfl, ?_⟩; have HB5 : Aside0 (Below W4.heap.size W4 w5) := ⟨hd.below⟩; have hs5 := blk_below HS4.out hd.below; have y1 := blk_frozen hs5 1; have u1 : w5.cell? ⟨w3.heap.size, 1, none⟩ = some (.int .i64 0) := (blk_cell hs5 1).trans rfl; have HS5 := Aside0.mk hs5; clear hd hs5))
    have hs6 := blk_put HS5.out 1 (.int .i64 q1) rfl
    have HB6 := Aside0.mk (blw_set (below_then HB4.out HB4.out.size HB5.out) (Nat.le_refl _) 1 (.int .i64 q1))
    obtain ⟨W6, hW6⟩ : ∃ y, w5.setCell ⟨w3.heap.size, 1, none⟩ (.int .i64 q1) = y := ⟨_, rfl⟩
    rw [hW6] at hs6 HB6 ⊢
    have HS6 := Aside0.mk hs6
    clear hs6 hW6 u1 y1 HS5 HB5 HS4 HB4 hz1 hz2 hv1 t6
    have hz2 := blk_frozen HS6.out 2
    have hv2 : W6.cell? ⟨w3.heap.size, 2, none⟩ = some (.int .i64 0) := (blk_cell HS6.out 2).trans rfl
    go_upto_region 6 with (first
      | ((with_reducible refine gate_callee (f := 12) rfl ?_); refine goesL_ _ rfl rfl Try.func12 (by kernel_rfl) rfl #[.int .i64 a2, .int .i64 65536] rfl (by (try simp only [List.map_toArray, List.map_cons, List.map_nil]); first | done | rfl) ?_; refine (packthreadkeep_Picked.calls a2 65536 q2 W6 HP2.out).mono ?_; rintro e w7 ⟨rfl, hd⟩; refine ⟨_, rfl, ?_⟩; have HB7 : Aside0 (Below W6.heap.size W6 w7) := ⟨hd.below⟩; have hs7 := blk_below HS6.out hd.below; have y1 := blk_frozen hs7 2; have u1 : w7.cell? ⟨w3.heap.size, 2, none⟩ = some (.int .i64 0) := (blk_cell hs7 2).trans rfl; have HS7 := Aside0.mk hs7; clear hd hs7))
    have hs8 := blk_put HS7.out 2 (.int .i64 q2) rfl
    have HB8 := Aside0.mk (blw_set (below_then HB6.out HB6.out.size HB7.out) (Nat.le_refl _) 2 (.int .i64 q2))
    obtain ⟨W8, hW8⟩ : ∃ y, w7.setCell ⟨w3.heap.size, 2, none⟩ (.int .i64 q2) = y := ⟨_, rfl⟩
    rw [hW8] at hs8 HB8 ⊢
    have HS8 := Aside0.mk hs8
    clear hs8 hW8 u1 y1 HS7 HB7 HS6 HB6 hz2 hv2
    clear HP1 HP2
    go_upto_block 0 with (fail)
    go_wp2
    go_loopw [15] (fun v15 wr => ∃ m : Nat, v15 = .int .i64 (m : Int) ∧ m % 2 = 0 ∧ m ≤ 6 ∧ m ≤ l4.length ∧ Aside0 (∃ v, wr.heap[w3.heap.size]? = some (.cells #[.int .i64 q0, .int .i64 q1, .int .i64 q2, .bool b1, .bool b2, .bool b4, .bool true, v, .slice A8 ld.length c8] 26 (0, 0)) ∧ Kd.R k52 52 wr w3.heap.size (fun _ => True) v (sk l4 (m / 2))) ∧ Aside0 (Below w3.heap.size w3 wr)) (fun v15 _ => 8 - (intOf v15).toNat)
    case atStart => exact ⟨0, rfl, rfl, by omega, by omega, ⟨⟨_, HS8.out, Kd.R_nil _ _ _ _ _⟩⟩, HB8⟩
    case round =>
      obtain ⟨m, rfl, hm2, hm6, hml, HRV, HBR⟩ := hrel
      obtain ⟨wo, hwo⟩ : ∃ wo : World, wo = wr := ⟨_, rfl⟩
      subst hwo
      obtain ⟨v, hs, hR⟩ := HRV.out
      clear HRV HS8 HB8
      obtain ⟨Av, cv, hv⟩ := Kd.R_slice hR
      subst hv
      have hw1 : IntKind.i64.wrap ((m : Int) + 1) = (m : Int) + 1 := by simp only [i64_w]; unfold wrap64; omega
      by_cases k1 : m + 1 < l4.length
      · have k1i : decide ((m : Int) + 1 < (l4.length : Int)) = true := decide_eq_true (by omega)
        by_cases k2 : m < 6
        · have k2i : decide ((m : Int) < 6) = true := decide_eq_true (by omega)
          obtain ⟨ad, hA, h0⟩ := Kd.at_int (Kd.C_below HR4.out (below_step HB3.out HBR.out)) (m : Int) (by omega) (by omega)
          subst hA
          obtain ⟨ad', he, h1⟩ := Kd.at_int (Kd.C_below HR4.out (below_step HB3.out HBR.out)) ((m : Int) + 1) (by omega) (by omega)
          cases he
          rw [Int.toNat_natCast] at h0
          rw [show ((m : Int) + 1).toNat = m + 1 by omega] at h1
          obtain ⟨x, hx⟩ : ∃ x, rd l4 (m : Int) = x := ⟨_, rfl⟩
          obtain ⟨y, hy⟩ : ∃ y, rd l4 ((m : Int) + 1) = y := ⟨_, rfl⟩
          rw [hx] at h0
          rw [hy] at h1
          have h1' : wo.cell? ⟨ad.block, ad.off + (m + 1), none⟩ = some (.int .i64 y) := h1
          obtain ⟨qa, hqa⟩ : ∃ q, x % 65536 = q := ⟨_, rfl⟩
          obtain ⟨qb, hqb⟩ : ∃ q, y % 65536 = q := ⟨_, rfl⟩
          obtain ⟨D, hD⟩ : ∃ D, sk l4 (m / 2) = D := ⟨_, rfl⟩
          have HDS := Aside0.mk (show sk l4 ((m + 2) / 2) = D ++ [(⟨qa, qb⟩ : S52)] by
            rw [← hD, ← hqa, ← hqb, ← hx, ← hy, show (m + 2) / 2 = m / 2 + 1 by omega]
            simp only [sk, List.range_succ, List.map_append, List.map_cons, List.map_nil]
            rw [show 2 * (m / 2) = m by omega])
          have HPA := Aside0.mk (show packthreadkeep_Picked.f x 65536 = some qa by rw [← hqa]; exact pick_eq x 65536 (by omega) (by omega))
          have HPB := Aside0.mk (show packthreadkeep_Picked.f y 65536 = some qb by rw [← hqb]; exact pick_eq y 65536 (by omega) (by omega))
          have HLN := Aside0.mk (show D.length ≤ 3 by rw [← hD]; simp [sk]; omega)
          rw [hD] at hR hs
          have HR := Aside0.mk hR
          have HS := Aside0.mk hs
          have f7 : wo.cell? ⟨w3.heap.size, 7, none⟩ = some (.slice Av D.length cv) := by rw [blk_cell hs]; rfl
          have z7 := blk_frozen hs 7
          have qlt := blk_lt hs
          have hn2 : 0 ≤ (m : Int) + 1 := by omega
          have hn3 : ((m : Int) + 1).toNat = m + 1 := by omega
          have hn0 : m < l4.length := by omega
          have hn1 : (m : Int) + 1 < (l4.length : Int) := by omega
          have K1 := Aside0.mk k1
          have HC4' := Aside0.mk (show m + 1 < l4.length ∧ l4.length ≤ c4 from ⟨k1, HC4.out⟩)
          clear hs hR hqa hqb hD hx hy
          go_upto_region 9 with (fail)
          go_region_law (first
            | (refine goesW_ Try.func12 (by kernel_rfl) rfl #[.int .i64 x, .int .i64 65536] rfl rfl rfl rfl (by (try simp only [List.map_toArray, List.map_cons, List.map_nil]); first | done | rfl) ?_; refine (packthreadkeep_Picked.calls x 65536 qa wo.drew HPA.out).mono ?_; rintro e wA ⟨rfl, hd⟩; refine ⟨_, rfl, ?_⟩; have hb : Below wo.heap.size wo wA := (Below.refl _ wo).drew.trans hd.below; have HSa := Aside0.mk (blk_below HS.out hb); have HRa := Aside0.mk (Kd.R_below HR.out hb); have HBoa := Aside0.mk hb; have f7a : wA.cell? ⟨w3.heap.size, 7, none⟩ = some (.slice Av D.length cv) := (blk_cell HSa.out 7).trans rfl; have h1a : wA.cell? ⟨ad.block, ad.off + (m + 1), none⟩ = some (.int .i64 y) := pw_cell_below hb h1'; have h1b : wA.cell? (ad.add (m + 1)) = some (.int .i64 y) := pw_cell_below hb h1; clear hb hd)
            | (refine goesW_ Try.func12 (by kernel_rfl) rfl #[.int .i64 y, .int .i64 65536] rfl rfl rfl rfl (by (try simp only [List.map_toArray, List.map_cons, List.map_nil]); first | done | rfl) ?_; refine (packthreadkeep_Picked.calls y 65536 qb wA HPB.out).mono ?_; rintro e wB ⟨rfl, hd⟩; refine ⟨_, rfl, ?_⟩; have hb : Below wo.heap.size wo wB := below_step HBoa.out hd.below; have HSb := Aside0.mk (blk_below HS.out hb); have HRb := Aside0.mk (Kd.R_below HR.out hb); have HBob := Aside0.mk hb; have f7b : wB.cell? ⟨w3.heap.size, 7, none⟩ = some (.slice Av D.length cv) := (blk_cell HSb.out 7).trans rfl; have f7c : (wB.alloc (Obj.cells #[.int .i64 qa, .int .i64 qb] 52)).cell? ⟨w3.heap.size, 7, none⟩ = some (.slice Av D.length cv) := (blk_cell (blk_below HSb.out (below_alloc (Below.refl _ _) _)) 7).trans rfl; clear hb hd)
            | (refine Kd.R_append_step k52 (w0 := wB) (W := wB) w3.heap.size rfl (.tmp 55) (.tmp 68) 24 52 (.agg #[.int .i64 0, .int .i64 0]) 16 rfl Try.underlying24 info52 rfl (by decide) (by decide) (.slice Av D.length cv) D (⟨qa, qb⟩ : S52) [.int .i64 qa, .int .i64 qb] (fun _ => True) (fun _ => False) rfl rfl (k52_mkM _ _ _ (⟨qa, qb⟩ : S52)) (fun _ hk => hk.elim) (fun _ _ => trivial) HRb.out (Below.refl _ _) ?aS ?aL ?_; (case aS => have := HBR.out.size; have := HBob.out.size; omega); (case aL => have := HLN.out; omega); intro v17 w17 ho hb hg hat; obtain ⟨A9, c9, hv9⟩ := Kd.R_slice ho; subst hv9; have HO17 := Aside0.mk ho; have HB17 := Aside0.mk hb; have hblk := (hg.block w3.heap.size (blk_lt HSb.out) (fun e1 => by obtain ⟨cells, hc1⟩ := Kd.R_typed HRb.out _ e1.symm; rw [HSb.out] at hc1; injection hc1 with hc1; injection hc1 with _ hc1; exact absurd hc1 (by decide))).trans HSb.out; have HS17 := Aside0.mk hblk; have g7 : w17.cell? ⟨w3.heap.size, 7, none⟩ = some (.slice Av D.length cv) := (blk_cell hblk 7).trans rfl; have y7 := blk_frozen hblk 7; clear ho hb hg hat hblk))
          all_goals
            have hBw : Below w3.heap.size w3 w17 := (HBR.out.trans (HBob.out.mono HBR.out.size)).trans HB17.out
            have hst := blk_put HS17.out 7 (.slice A9 (D ++ [(⟨qa, qb⟩ : S52)]).length c9) rfl
            have hRt := Kd.R_set HO17.out HS17.out (by decide) 7 (.slice A9 (D ++ [(⟨qa, qb⟩ : S52)]).length c9)
            have HBt := Aside0.mk (blw_set hBw (Nat.le_refl _) 7 (.slice A9 (D ++ [(⟨qa, qb⟩ : S52)]).length c9))
            rw [← HDS.out] at hRt
            have HXt := Aside0.mk (show ∃ v, (w17.setCell ⟨w3.heap.size, 7, none⟩ (.slice A9 (D ++ [(⟨qa, qb⟩ : S52)]).length c9)).heap[w3.heap.size]? = some (.cells #[.int .i64 q0, .int .i64 q1, .int .i64 q2, .bool b1, .bool b2, .bool b4, .bool true, v, .slice A8 ld.length c8] 26 (0, 0)) ∧ Kd.R k52 52 (w17.setCell ⟨w3.heap.size, 7, none⟩ (.slice A9 (D ++ [(⟨qa, qb⟩ : S52)]).length c9)) w3.heap.size (fun _ => True) v (sk l4 ((m + 2) / 2)) from ⟨_, hst, by rw [HDS.out] at hRt ⊢; exact hRt⟩)
            clear hBw hst hRt HS17 HO17 HB17 g7 y7
            have hw4 : IntKind.i64.wrap ((m : Int) + 2) = (m : Int) + 2 := by simp only [i64_w]; unfold wrap64; omega
            go_wp2
            have hDl : (D ++ [(⟨qa, qb⟩ : S52)]).length = D.length + 1 := by simp
            rw [hDl] at HXt HBt
            exact ⟨⟨m + 2, (by rw [show ((m + 2 : Nat) : Int) = (m : Int) + 2 by omega]), by omega, by omega, by omega, HXt, HBt⟩, by simp only [intOf]; omega⟩
        · have k2i : decide ((m : Int) < 6) = false := decide_eq_false (by omega)
          have hme : m / 2 = min 3 (l4.length / 2) := by omega
          rw [hme] at hs hR
          go_upto_region 10 with (fail)
          have HZF := Aside0.mk (blk_below HZ3.out HBR.out)
          have HBF := Aside0.mk (below_step HB3.out HBR.out)
          have HOF := Aside0.mk (Kd.R_below HO8.out HBR.out)
          have s0 : wo.cell? ⟨w3.heap.size, 0, none⟩ = some (.int .i64 q0) := (blk_cell hs 0).trans rfl
          have s1 : wo.cell? ⟨w3.heap.size, 1, none⟩ = some (.int .i64 q1) := (blk_cell hs 1).trans rfl
          have s2 : wo.cell? ⟨w3.heap.size, 2, none⟩ = some (.int .i64 q2) := (blk_cell hs 2).trans rfl
          have s3 : wo.cell? ⟨w3.heap.size, 3, none⟩ = some (.bool b1) := (blk_cell hs 3).trans rfl
          have s4 : wo.cell? ⟨w3.heap.size, 4, none⟩ = some (.bool b2) := (blk_cell hs 4).trans rfl
          have s5 : wo.cell? ⟨w3.heap.size, 5, none⟩ = some (.bool b4) := (blk_cell hs 5).trans rfl
          have s6 : wo.cell? ⟨w3.heap.size, 6, none⟩ = some (.bool true) := (blk_cell hs 6).trans rfl
          have s7 : wo.cell? ⟨w3.heap.size, 7, none⟩ = some (.slice Av (sk l4 (min 3 (l4.length / 2))).length cv) := (blk_cell hs 7).trans rfl
          have s8 : wo.cell? ⟨w3.heap.size, 8, none⟩ = some (.slice A8 ld.length c8) := (blk_cell hs 8).trans rfl
          have r0 : wo.cell? ⟨w.heap.size, 0, none⟩ = some (.int .i64 0) := (blk_cell HZF.out 0).trans rfl
          have z0 := blk_frozen HZF.out 0
          have r1 : wo.cell? ⟨w.heap.size, 1, none⟩ = some (.int .i64 0) := (blk_cell HZF.out 1).trans rfl
          have z1 := blk_frozen HZF.out 1
          have r2 : wo.cell? ⟨w.heap.size, 2, none⟩ = some (.int .i64 0) := (blk_cell HZF.out 2).trans rfl
          have z2 := blk_frozen HZF.out 2
          have r3 : wo.cell? ⟨w.heap.size, 3, none⟩ = some (.bool false) := (blk_cell HZF.out 3).trans rfl
          have z3 := blk_frozen HZF.out 3
          have r4 : wo.cell? ⟨w.heap.size, 4, none⟩ = some (.bool false) := (blk_cell HZF.out 4).trans rfl
          have z4 := blk_frozen HZF.out 4
          have r5 : wo.cell? ⟨w.heap.size, 5, none⟩ = some (.bool false) := (blk_cell HZF.out 5).trans rfl
          have z5 := blk_frozen HZF.out 5
          have r6 : wo.cell? ⟨w.heap.size, 6, none⟩ = some (.bool false) := (blk_cell HZF.out 6).trans rfl
          have z6 := blk_frozen HZF.out 6
          have r7 : wo.cell? ⟨w.heap.size, 7, none⟩ = some (.slice none 0 0) := (blk_cell HZF.out 7).trans rfl
          have z7 := blk_frozen HZF.out 7
          have r8 : wo.cell? ⟨w.heap.size, 8, none⟩ = some (.slice none 0 0) := (blk_cell HZF.out 8).trans rfl
          have z8 := blk_frozen HZF.out 8
          go_wp2
          rw [put9_eq]
          have hb := put9_blk HZF.out (.int .i64 q0) (.int .i64 q1) (.int .i64 q2) (.bool b1) (.bool b2) (.bool b4) (.bool true) (.slice Av (sk l4 (min 3 (l4.length / 2))).length cv) (.slice A8 ld.length c8)
          have hbw := put9_below (g := w.heap.size) HBF.out (by omega) (.int .i64 q0) (.int .i64 q1) (.int .i64 q2) (.bool b1) (.bool b2) (.bool b4) (.bool true) (.slice Av (sk l4 (min 3 (l4.length / 2))).length cv) (.slice A8 ld.length c8)
          have hR9 := put9_R (Kd.R_lower hR (Nat.le_of_lt HLT.out)) HZF.out (by decide) (.int .i64 q0) (.int .i64 q1) (.int .i64 q2) (.bool b1) (.bool b2) (.bool b4) (.bool true) (.slice Av (sk l4 (min 3 (l4.length / 2))).length cv) (.slice A8 ld.length c8)
          have hO9 := put9_R HOF.out HZF.out (by decide) (.int .i64 q0) (.int .i64 q1) (.int .i64 q2) (.bool b1) (.bool b2) (.bool b4) (.bool true) (.slice Av (sk l4 (min 3 (l4.length / 2))).length cv) (.slice A8 ld.length c8)
          have HD := HH.out
          unfold packthreadkeep_Seg.f at HD
          rw [HB8_.out, if_pos rfl, HB1_.out, HB2_.out, HB4_.out, HLD.out, HQ0.out, HQ1.out, HQ2.out] at HD
          injection HD with HD
          simp only [Prod.mk.injEq] at HD
          obtain ⟨rfl, rfl, rfl, rfl, rfl, rfl, rfl, rfl, rfl⟩ := HD
          exact bodyPost_ret (results_cell_row rfl _ _ w.heap.size 26 _ (0, 0) _ rfl hb Try.underlying26 rfl (by kernel_rfl)) rfl ⟨_, _, rfl, hR9, hO9, hbw⟩
      · have k1i : decide ((m : Int) + 1 < (l4.length : Int)) = false := decide_eq_false (by omega)
        have hme : m / 2 = min 3 (l4.length / 2) := by omega
        rw [hme] at hs hR
        go_upto_region 10 with (fail)
        have HZF := Aside0.mk (blk_below HZ3.out HBR.out)
        have HBF := Aside0.mk (below_step HB3.out HBR.out)
        have HOF := Aside0.mk (Kd.R_below HO8.out HBR.out)
        have s0 : wo.cell? ⟨w3.heap.size, 0, none⟩ = some (.int .i64 q0) := (blk_cell hs 0).trans rfl
        have s1 : wo.cell? ⟨w3.heap.size, 1, none⟩ = some (.int .i64 q1) := (blk_cell hs 1).trans rfl
        have s2 : wo.cell? ⟨w3.heap.size, 2, none⟩ = some (.int .i64 q2) := (blk_cell hs 2).trans rfl
        have s3 : wo.cell? ⟨w3.heap.size, 3, none⟩ = some (.bool b1) := (blk_cell hs 3).trans rfl
        have s4 : wo.cell? ⟨w3.heap.size, 4, none⟩ = some (.bool b2) := (blk_cell hs 4).trans rfl
        have s5 : wo.cell? ⟨w3.heap.size, 5, none⟩ = some (.bool b4) := (blk_cell hs 5).trans rfl
        have s6 : wo.cell? ⟨w3.heap.size, 6, none⟩ = some (.bool true) := (blk_cell hs 6).trans rfl
        have s7 : wo.cell? ⟨w3.heap.size, 7, none⟩ = some (.slice Av (sk l4 (min 3 (l4.length / 2))).length cv) := (blk_cell hs 7).trans rfl
        have s8 : wo.cell? ⟨w3.heap.size, 8, none⟩ = some (.slice A8 ld.length c8) := (blk_cell hs 8).trans rfl
        have r0 : wo.cell? ⟨w.heap.size, 0, none⟩ = some (.int .i64 0) := (blk_cell HZF.out 0).trans rfl
        have z0 := blk_frozen HZF.out 0
        have r1 : wo.cell? ⟨w.heap.size, 1, none⟩ = some (.int .i64 0) := (blk_cell HZF.out 1).trans rfl
        have z1 := blk_frozen HZF.out 1
        have r2 : wo.cell? ⟨w.heap.size, 2, none⟩ = some (.int .i64 0) := (blk_cell HZF.out 2).trans rfl
        have z2 := blk_frozen HZF.out 2
        have r3 : wo.cell? ⟨w.heap.size, 3, none⟩ = some (.bool false) := (blk_cell HZF.out 3).trans rfl
        have z3 := blk_frozen HZF.out 3
        have r4 : wo.cell? ⟨w.heap.size, 4, none⟩ = some (.bool false) := (blk_cell HZF.out 4).trans rfl
        have z4 := blk_frozen HZF.out 4
        have r5 : wo.cell? ⟨w.heap.size, 5, none⟩ = some (.bool false) := (blk_cell HZF.out 5).trans rfl
        have z5 := blk_frozen HZF.out 5
        have r6 : wo.cell? ⟨w.heap.size, 6, none⟩ = some (.bool false) := (blk_cell HZF.out 6).trans rfl
        have z6 := blk_frozen HZF.out 6
        have r7 : wo.cell? ⟨w.heap.size, 7, none⟩ = some (.slice none 0 0) := (blk_cell HZF.out 7).trans rfl
        have z7 := blk_frozen HZF.out 7
        have r8 : wo.cell? ⟨w.heap.size, 8, none⟩ = some (.slice none 0 0) := (blk_cell HZF.out 8).trans rfl
        have z8 := blk_frozen HZF.out 8
        go_wp2
        rw [put9_eq]
        have hb := put9_blk HZF.out (.int .i64 q0) (.int .i64 q1) (.int .i64 q2) (.bool b1) (.bool b2) (.bool b4) (.bool true) (.slice Av (sk l4 (min 3 (l4.length / 2))).length cv) (.slice A8 ld.length c8)
        have hbw := put9_below (g := w.heap.size) HBF.out (by omega) (.int .i64 q0) (.int .i64 q1) (.int .i64 q2) (.bool b1) (.bool b2) (.bool b4) (.bool true) (.slice Av (sk l4 (min 3 (l4.length / 2))).length cv) (.slice A8 ld.length c8)
        have hR9 := put9_R (Kd.R_lower hR (Nat.le_of_lt HLT.out)) HZF.out (by decide) (.int .i64 q0) (.int .i64 q1) (.int .i64 q2) (.bool b1) (.bool b2) (.bool b4) (.bool true) (.slice Av (sk l4 (min 3 (l4.length / 2))).length cv) (.slice A8 ld.length c8)
        have hO9 := put9_R HOF.out HZF.out (by decide) (.int .i64 q0) (.int .i64 q1) (.int .i64 q2) (.bool b1) (.bool b2) (.bool b4) (.bool true) (.slice Av (sk l4 (min 3 (l4.length / 2))).length cv) (.slice A8 ld.length c8)
        have HD := HH.out
        unfold packthreadkeep_Seg.f at HD
        rw [HB8_.out, if_pos rfl, HB1_.out, HB2_.out, HB4_.out, HLD.out, HQ0.out, HQ1.out, HQ2.out] at HD
        injection HD with HD
        simp only [Prod.mk.injEq] at HD
        obtain ⟨rfl, rfl, rfl, rfl, rfl, rfl, rfl, rfl, rfl⟩ := HD
        exact bodyPost_ret (results_cell_row rfl _ _ w.heap.size 26 _ (0, 0) _ rfl hb Try.underlying26 rfl (by kernel_rfl)) rfl ⟨_, _, rfl, hR9, hO9, hbw⟩
  · obtain rfl : b8 = false := by cases b8 <;> simp_all
    go_upto_region 10 with (fail)
    have HZF := Aside0.mk (blk_below HZ3.out HB4.out)
    have HBF := Aside0.mk (below_step HB3.out HB4.out)
    have HOF := Aside0.mk (Kd.R_below HO8.out HB4.out)
    have s0 : W4.cell? ⟨w3.heap.size, 0, none⟩ = some (.int .i64 q0) := (blk_cell HS4.out 0).trans rfl
    have s1 : W4.cell? ⟨w3.heap.size, 1, none⟩ = some (.int .i64 0) := (blk_cell HS4.out 1).trans rfl
    have s2 : W4.cell? ⟨w3.heap.size, 2, none⟩ = some (.int .i64 0) := (blk_cell HS4.out 2).trans rfl
    have s3 : W4.cell? ⟨w3.heap.size, 3, none⟩ = some (.bool b1) := (blk_cell HS4.out 3).trans rfl
    have s4 : W4.cell? ⟨w3.heap.size, 4, none⟩ = some (.bool b2) := (blk_cell HS4.out 4).trans rfl
    have s5 : W4.cell? ⟨w3.heap.size, 5, none⟩ = some (.bool b4) := (blk_cell HS4.out 5).trans rfl
    have s6 : W4.cell? ⟨w3.heap.size, 6, none⟩ = some (.bool false) := (blk_cell HS4.out 6).trans rfl
    have s7 : W4.cell? ⟨w3.heap.size, 7, none⟩ = some (.slice none 0 0) := (blk_cell HS4.out 7).trans rfl
    have s8 : W4.cell? ⟨w3.heap.size, 8, none⟩ = some (.slice A8 ld.length c8) := (blk_cell HS4.out 8).trans rfl
    have r0 : W4.cell? ⟨w.heap.size, 0, none⟩ = some (.int .i64 0) := (blk_cell HZF.out 0).trans rfl
    have z0 := blk_frozen HZF.out 0
    have r1 : W4.cell? ⟨w.heap.size, 1, none⟩ = some (.int .i64 0) := (blk_cell HZF.out 1).trans rfl
    have z1 := blk_frozen HZF.out 1
    have r2 : W4.cell? ⟨w.heap.size, 2, none⟩ = some (.int .i64 0) := (blk_cell HZF.out 2).trans rfl
    have z2 := blk_frozen HZF.out 2
    have r3 : W4.cell? ⟨w.heap.size, 3, none⟩ = some (.bool false) := (blk_cell HZF.out 3).trans rfl
    have z3 := blk_frozen HZF.out 3
    have r4 : W4.cell? ⟨w.heap.size, 4, none⟩ = some (.bool false) := (blk_cell HZF.out 4).trans rfl
    have z4 := blk_frozen HZF.out 4
    have r5 : W4.cell? ⟨w.heap.size, 5, none⟩ = some (.bool false) := (blk_cell HZF.out 5).trans rfl
    have z5 := blk_frozen HZF.out 5
    have r6 : W4.cell? ⟨w.heap.size, 6, none⟩ = some (.bool false) := (blk_cell HZF.out 6).trans rfl
    have z6 := blk_frozen HZF.out 6
    have r7 : W4.cell? ⟨w.heap.size, 7, none⟩ = some (.slice none 0 0) := (blk_cell HZF.out 7).trans rfl
    have z7 := blk_frozen HZF.out 7
    have r8 : W4.cell? ⟨w.heap.size, 8, none⟩ = some (.slice none 0 0) := (blk_cell HZF.out 8).trans rfl
    have z8 := blk_frozen HZF.out 8
    go_wp2
    rw [put9_eq]
    have hb := put9_blk HZF.out (.int .i64 q0) (.int .i64 0) (.int .i64 0) (.bool b1) (.bool b2) (.bool b4) (.bool false) (.slice none 0 0) (.slice A8 ld.length c8)
    have hbw := put9_below (g := w.heap.size) HBF.out (by omega) (.int .i64 q0) (.int .i64 0) (.int .i64 0) (.bool b1) (.bool b2) (.bool b4) (.bool false) (.slice none 0 0) (.slice A8 ld.length c8)
    have hR9 := put9_R (Kd.R_nil k52 52 W4 w.heap.size (fun _ => True)) HZF.out (by decide) (.int .i64 q0) (.int .i64 0) (.int .i64 0) (.bool b1) (.bool b2) (.bool b4) (.bool false) (.slice none 0 0) (.slice A8 ld.length c8)
    have hO9 := put9_R HOF.out HZF.out (by decide) (.int .i64 q0) (.int .i64 0) (.int .i64 0) (.bool b1) (.bool b2) (.bool b4) (.bool false) (.slice none 0 0) (.slice A8 ld.length c8)
    have HD := HH.out
    unfold packthreadkeep_Seg.f at HD
    rw [HB8_.out, if_neg (by decide), HB1_.out, HB2_.out, HB4_.out, HLD.out, HQ0.out] at HD
    injection HD with HD
    simp only [Prod.mk.injEq] at HD
    obtain ⟨rfl, rfl, rfl, rfl, rfl, rfl, rfl, rfl, rfl⟩ := HD
    exact bodyPost_ret (results_cell_row rfl _ _ w.heap.size 26 _ (0, 0) _ rfl hb Try.underlying26 rfl (by kernel_rfl)) rfl ⟨_, _, rfl, hR9, hO9, hbw⟩

/-! ### seg_serial: function 30 -/
def seg_serial.f (a0 : Int) : Option (Bool) := if a0 ≥ 0 then (some (decide (a0 < 65536))) else (some false)
set_option maxHeartbeats 8000000 in
set_option maxRecDepth 100000 in
theorem seg_serial.calls (a0 : Int) (r : Bool) (w : World) (h : seg_serial.f a0 = some r) :
    Calls Try.prog 30 #[.int .i64 a0] w fun e w' => e = .returned (.bool r) ∧ Drawn0 w w' := by
  have H : (if a0 ≥ 0 then (some (decide (a0 < 65536))) else (some false)) = some r := h
  clear h
  by_cases c2 : a0 ≥ 0
  · rw [if_pos c2] at H
    have c2b0 : decide (0 ≤ a0) = true := decide_eq_true c2
    clear c2
    obtain rfl := Option.some.inj H
    go_enter Try.func30, Try.ntmps30
    go_wp2
    go_ret
    exact ⟨by first | rfl | (simp; done) | (simp [*]; done), by repeat (first | exact Drawn0.refl _ | apply Drawn0.step)⟩
  · rw [if_neg c2] at H
    have c2b0 : decide (0 ≤ a0) = false := decide_eq_false c2
    clear c2
    obtain rfl := Option.some.inj H
    go_enter Try.func30, Try.ntmps30
    go_wp2
    go_ret
    exact ⟨by first | rfl | (simp; done) | (simp [*]; done), by repeat (first | exact Drawn0.refl _ | apply Drawn0.step)⟩

/-! ### seg_fault_1: function 29 -/
def seg_fault_1.f (a0_0 : Int) (a0_1 : Int) : Option (Bool) := (seg_serial.f a0_0).bind fun t106 => (if t106 = true then ((seg_serial.f a0_1).bind fun t107 => (some (!t107))) else (some true))
set_option maxHeartbeats 8000000 in
set_option maxRecDepth 100000 in
theorem seg_fault_1.calls (a0_0 : Int) (a0_1 : Int) (r : Bool) (w : World) (h : seg_fault_1.f a0_0 a0_1 = some r) :
    Calls Try.prog 29 #[.agg #[.int .i64 a0_0, .int .i64 a0_1]] w fun e w' => e = .returned (.bool r) ∧ Below w.heap.size w w' := by
  have hu52 := Try.underlying52
  have HB := Aside0.mk (Below.refl w.heap.size w)
  have H : ((seg_serial.f a0_0).bind fun t106 => (if t106 = true then ((seg_serial.f a0_1).bind fun t107 => (some (!t107))) else (some true))) = some r := h
  clear h
  replace H := Option.bind_eq_some_iff.mp H
  obtain ⟨t106, A20, H⟩ := H
  replace H : (if t106 = true then ((seg_serial.f a0_1).bind fun t107 => (some (!t107))) else (some true)) = some r := H
  have A2 := Aside0.mk A20
  clear A20
  by_cases c3 : t106 = true
  · subst c3
    have H1 : ((seg_serial.f a0_1).bind fun t107 => (some (!t107))) = some r := by rw [if_pos rfl] at H; exact H
    clear H
    have H := H1
    clear H1
    replace H := Option.bind_eq_some_iff.mp H
    obtain ⟨t107, A40, H⟩ := H
    replace H : (some (!t107)) = some r := H
    have A4 := Aside0.mk A40
    clear A40
    obtain rfl := Option.some.inj H
    go_enter Try.func29, Try.ntmps29
    go_wp2_with (first | ((with_reducible refine gate_dst (N := 1) rfl ?_); refine box_event ?hg (N := 1) ?hd (cs := #[.int .i64 a0_0, .int .i64 a0_1]) (t := 52) ?hr ?_; (case hd => rfl); (case hg => rfl); (case hr => first | (go_simp; done) | (go_simp; rfl)); intro gb105 hg w5 hbox hb; have n0_ := Aside0.mk (below_step (by repeat (first | (with_reducible first | exact HB.out | apply below_alloc | apply pw_below_drewN | apply below_drew1) | exact HB.out)) hb); have n1_ := Aside0.mk (hbox); have n2_ := Aside0.mk ((by rw [hg]; exact (below_size (by repeat (first | (with_reducible first | exact HB.out | apply below_alloc | apply pw_below_drewN | apply below_drew1) | exact HB.out))) : w.heap.size ≤ gb105)); have n3_ := Aside0.mk ((by rw [hg]; exact (below_size (by repeat (first | (with_reducible first | exact HB.out | apply below_alloc | apply pw_below_drewN | apply below_drew1) | exact HB.out))) : w.heap.size ≤ gb105)); clear HB; have HB := n0_; have BK105 := n1_; have GW105 := n2_; have GE105 := n3_; clear n0_ n1_ n2_ n3_; clear hb hbox hg; have hcz6_0 : w5.cell? ⟨gb105, 0, none⟩ = some (.int .i64 a0_0) := (blk_cell BK105.out 0).trans rfl; have hcz6_1 : w5.cell? ⟨gb105, 1, none⟩ = some (.int .i64 a0_1) := (blk_cell BK105.out 1).trans rfl; have hfz6_0 := blk_frozen BK105.out 0; have hfz6_1 := blk_frozen BK105.out 1) | ((with_reducible refine gate_callee (f := 30) rfl ?_); refine goesL_ (some 5) rfl rfl Try.func30 (by kernel_rfl) rfl #[.int .i64 a0_0] rfl (by (try simp only [List.map_toArray, List.map_cons, List.map_nil]); first | done | rfl | (simp only [List.length_drop, List.length_take]; rfl)) ?_; (with_reducible refine (seg_serial.calls a0_0 true _ A2.out).mono ?_); rintro e w' ⟨rfl, ⟨nd, rfl⟩⟩; refine ⟨_, rfl, ?_⟩) | (go_at_call 30; (with_reducible refine (seg_serial.calls a0_1 t107 _ A4.out).mono ?_); rintro e w' ⟨rfl, ⟨nd, rfl⟩⟩))
    go_ret
    exact ⟨by first | rfl | (simp [errW_none, errW_some] <;> rfl) | (simp [*, errW_none, errW_some] <;> rfl), by repeat (first | (with_reducible first | exact HB.out | apply below_alloc | apply pw_below_drewN | apply below_drew1 | refine below_set ?_ GE105.out) | exact HB.out)⟩
  · replace c3 := Bool.eq_false_iff.mpr c3
    subst c3
    have H1 : (some true) = some r := by rw [if_neg (show ¬ (false = true) by decide)] at H; exact H
    clear H
    have H := H1
    clear H1
    obtain rfl := Option.some.inj H
    go_enter Try.func29, Try.ntmps29
    go_wp2_with (first | ((with_reducible refine gate_dst (N := 1) rfl ?_); refine box_event ?hg (N := 1) ?hd (cs := #[.int .i64 a0_0, .int .i64 a0_1]) (t := 52) ?hr ?_; (case hd => rfl); (case hg => rfl); (case hr => first | (go_simp; done) | (go_simp; rfl)); intro gb105 hg w7 hbox hb; have n0_ := Aside0.mk (below_step (by repeat (first | (with_reducible first | exact HB.out | apply below_alloc | apply pw_below_drewN | apply below_drew1) | exact HB.out)) hb); have n1_ := Aside0.mk (hbox); have n2_ := Aside0.mk ((by rw [hg]; exact (below_size (by repeat (first | (with_reducible first | exact HB.out | apply below_alloc | apply pw_below_drewN | apply below_drew1) | exact HB.out))) : w.heap.size ≤ gb105)); have n3_ := Aside0.mk ((by rw [hg]; exact (below_size (by repeat (first | (with_reducible first | exact HB.out | apply below_alloc | apply pw_below_drewN | apply below_drew1) | exact HB.out))) : w.heap.size ≤ gb105)); clear HB; have HB := n0_; have BK105 := n1_; have GW105 := n2_; have GE105 := n3_; clear n0_ n1_ n2_ n3_; clear hb hbox hg; have hcz8_0 : w7.cell? ⟨gb105, 0, none⟩ = some (.int .i64 a0_0) := (blk_cell BK105.out 0).trans rfl; have hcz8_1 : w7.cell? ⟨gb105, 1, none⟩ = some (.int .i64 a0_1) := (blk_cell BK105.out 1).trans rfl; have hfz8_0 := blk_frozen BK105.out 0; have hfz8_1 := blk_frozen BK105.out 1) | ((with_reducible refine gate_callee (f := 30) rfl ?_); refine goesL_ (some 5) rfl rfl Try.func30 (by kernel_rfl) rfl #[.int .i64 a0_0] rfl (by (try simp only [List.map_toArray, List.map_cons, List.map_nil]); first | done | rfl | (simp only [List.length_drop, List.length_take]; rfl)) ?_; (with_reducible refine (seg_serial.calls a0_0 false _ A2.out).mono ?_); rintro e w' ⟨rfl, ⟨nd, rfl⟩⟩; refine ⟨_, rfl, ?_⟩))
    go_ret
    exact ⟨by first | rfl | (simp [errW_none, errW_some] <;> rfl) | (simp [*, errW_none, errW_some] <;> rfl), by repeat (first | (with_reducible first | exact HB.out | apply below_alloc | apply pw_below_drewN | apply below_drew1 | refine below_set ?_ GE105.out) | exact HB.out)⟩

-- NOT PRINTED: function 32 (api_Range_32)

-- NOT PRINTED: function 31 (api_Range_31)

-- NOT PRINTED: function 20 (seg_fault)

/-! ### seg_two: function 21 -/
def seg_two.f (l0 : List Int) (a1 : Int) : Option (List Int) := (some (([(a1 / 256) % 256, (a1) % 256] : List Int) : List Int)).bind fun y111 => (if l0.length + y111.length < 140737488355328 then (some (l0 ++ y111)) else (none))
set_option maxHeartbeats 8000000 in
set_option maxRecDepth 100000 in
theorem seg_two.calls (P0_ : Nat → Prop) (u9000_ : Value) (l0 : List Int) (a1 : Int) (r : List Int) (w0 w : World) (hB : Below w0.heap.size w0 w) (ho0 : Kd.R (Kd.int .u8) 5 w w0.heap.size P0_ u9000_ l0) (h : seg_two.f l0 a1 = some r) :
    Calls Try.prog 21 #[u9000_, .int .i64 a1] w fun e w' => ∃ v0_ : Value, e = .returned (v0_) ∧ Kd.R (Kd.int .u8) 5 w' w0.heap.size (fun k_ => (P0_ k_ ∨ w.heap.size ≤ k_)) v0_ r ∧ Below w0.heap.size w0 w' ∧ Kept w w' (fun k_ => P0_ k_) := by
  have HO0 := Aside0.mk (show Kd.R (Kd.int .u8) 5 w w0.heap.size (fun k_ => (P0_ k_ ∨ w.heap.size ≤ k_)) u9000_ l0 from Kd.R_mono ho0 (fun k_ hk => (.inl hk)))
  have HK := Aside0.mk (Kept.refl w (fun k_ => P0_ k_))
  have HW0 := Aside0.mk hB.size
  have HB := Aside0.mk hB
  clear hB
  have H : ((some (([(a1 / 256) % 256, (a1) % 256] : List Int) : List Int)).bind fun y111 => (if l0.length + y111.length < 140737488355328 then (some (l0 ++ y111)) else (none))) = some r := h
  clear h
  obtain ⟨y111, hy111⟩ : ∃ y_ : List Int, y_ = (([(a1 / 256) % 256, (a1) % 256] : List Int)) := ⟨_, rfl⟩
  replace H : (if l0.length + y111.length < 140737488355328 then (some (l0 ++ y111)) else (none)) = some r := by first | (rw [hy111]; with_reducible exact H) | (have H2_ := (Option.bind_some _ _).symm.trans H; rw [hy111]; with_reducible exact H2_) | (have H2_ := (Option.bind_some _ _).symm.trans H; with_reducible exact H2_) | with_reducible exact H | (rw [hy111]; exact H) | exact H
  have Ny111 := Aside0.mk hy111
  clear hy111
  by_cases c3 : l0.length + y111.length < 140737488355328
  · rw [if_pos c3] at H
    have LMc3 := Aside0.mk c3
    clear c3
    obtain ⟨y114, hy114⟩ : ∃ y_ : List Int, y_ = (l0 ++ y111) := ⟨_, rfl⟩
    replace H : (some y114) = some r := by first | (rw [hy114]; with_reducible exact H) | (have H2_ := (Option.bind_some _ _).symm.trans H; rw [hy114]; with_reducible exact H2_) | (have H2_ := (Option.bind_some _ _).symm.trans H; with_reducible exact H2_) | with_reducible exact H | (rw [hy114]; exact H) | exact H
    have Ny114 := Aside0.mk hy114
    clear hy114
    obtain rfl := Option.some.inj H
    go_enter Try.func21, Try.ntmps21
    go_wp2_with (first | ((with_reducible refine gate_dst (N := 11) rfl ?_); refine Kd.R_lit (Kd.int .u8) _ 5 ?hg (N := 11) ?hd (xs := ([(a1 / 256) % 256, (a1) % 256] : List Int)) (inner := [.int .u8 ((a1 / 256) % 256), .int .u8 ((a1) % 256)]) (ok := fun _ => True) (okp := fun _ => True) ?hr ?hp (fun _ hk => hk) trivial (Below.refl _ _) (Nat.le_refl _) (by simp) ?_; (case hd => rfl); (case hg => rfl); (case hr => first | (go_simp; done) | (go_simp; rfl)); (case hp => exact (Reps.one (show Kd.M (Kd.int .u8) _ _ _ ((a1 / 256) % 256) [.int .u8 ((a1 / 256) % 256)] from rfl) (Reps.one (show Kd.M (Kd.int .u8) _ _ _ ((a1) % 256) [.int .u8 ((a1) % 256)] from rfl) (Reps.none _ _)))); intro v112 w4 ho5 hb hg_ hnew_; clear hg_ hnew_; (first | rw [← Ny111.out] at ho5 | (simp only [Int.reduceToNat] at ho5; rw [← Ny111.out] at ho5)); have n0_ := Aside0.mk (Kd.R_elder' (by (with_reducible repeat (first | apply Kd.R_alloc | apply Kd.R_drewN | apply Kd.R_drew)); exact HO0.out) (Kd.R_base ho5) hb); have n1_ := Aside0.mk (Kd.R_lower (Kd.R_new' (Kd.R_newM (M := fun k_ => (P0_ k_ ∨ w.heap.size ≤ k_)) ho5 (by first | exact HK.out.1 | exact (show Kept w _ (fun k_ => P0_ k_) from by repeat (first | (with_reducible first | exact HK.out | apply Kept.alloc | apply Kept.drewN | apply Kept.drew) | exact HK.out)).1) (fun k_ h_ => .inr h_)) (Kd.R_lt (by (with_reducible repeat (first | apply Kd.R_alloc | apply Kd.R_drewN | apply Kd.R_drew)); exact HO0.out))) (below_size (by repeat (first | (with_reducible first | exact HB.out | apply below_alloc | apply pw_below_drewN | apply below_drew1) | exact HB.out)))); have n2_ := Aside0.mk (Kept.below (S := (fun k_ => P0_ k_)) (by repeat (first | (with_reducible first | exact HK.out | apply Kept.alloc | apply Kept.drewN | apply Kept.drew) | exact HK.out)) hb); have n3_ := Aside0.mk (below_step (by repeat (first | (with_reducible first | exact HB.out | apply below_alloc | apply pw_below_drewN | apply below_drew1) | exact HB.out)) hb); clear HO0; clear HK; clear HB; have HO0 := n0_; have HO113 := n1_; have HK := n2_; have HB := n3_; clear n0_ n1_ n2_ n3_; clear hb ho5; obtain ⟨Ao7, co7, eo7⟩ := Kd.R_slice HO113.out; subst eo7) | ((with_reducible refine gate_builtin (b := .append) (xs := #[.tmp 5, .tmp 11]) rfl ?_); at_builtin; refine Kd.R_append_rows (Kd.int .u8) (w0 := w0) w0.heap.size rfl (.tmp 5) (.tmp 11) 23 5 (.int .u8 0) 1 rfl Try.underlying23 info5 rfl (by decide) (by omega) u9000_ l0 y111 _ _ _ (fun k_ => (P0_ k_ ∨ w.heap.size ≤ k_) ∧ some k_ ≠ (.slice Ao7 y111.length co7 : Value).ownBlock) (fun _ => False) rfl rfl ?aO ?aR (fun _ _ h => h) (fun _ h => h.elim) ?aF ?aB ?aS ?aL ?_; (case aR => repeat (first | exact (Kd.R_reads' HO113.out).2.2 | (with_reducible refine Kd.C_alloc ?_ _) | (with_reducible refine Kd.C_drewN ?_ _) | (with_reducible refine Kd.C_drew ?_))); (case aB => exact (by repeat (first | (with_reducible first | exact HB.out | apply below_alloc | apply pw_below_drewN | apply below_drew1) | exact HB.out))); (case aF => exact (fun k_ hk => ⟨(.inr (Nat.le_trans (by first | exact HK.out.1 | exact (show Kept w _ (fun k_ => P0_ k_) from by repeat (first | (with_reducible first | exact HK.out | apply Kept.alloc | apply Kept.drewN | apply Kept.drew) | exact HK.out)).1) hk)), Kd.fresh' (Kd.R_lt (by (with_reducible repeat (first | apply Kd.R_alloc | apply Kd.R_drewN | apply Kd.R_drew)); exact HO113.out)) k_ hk⟩)); (case aO => exact (by (with_reducible repeat (first | apply Kd.R_alloc | apply Kd.R_drewN | apply Kd.R_drew)); exact HO0.out)); (case aS => exact (below_size (by repeat (first | (with_reducible first | exact HB.out | apply below_alloc | apply pw_below_drewN | apply below_drew1) | exact HB.out)))); (case aL => have := LMc3.out; omega); intro v115 w6 ho hb hg hat; rw [← Ny114.out] at ho; have n0_ := Aside0.mk (Kd.R_after (ok := (fun k_ => (P0_ k_ ∨ w.heap.size ≤ k_))) (by (with_reducible repeat (first | apply Kd.R_alloc | apply Kd.R_drewN | apply Kd.R_drew)); exact Kd.R_mono HO113.out (fun _ hk => by first | exact ⟨hk.1.1, hk.2⟩ | (and_intros <;> first | exact hk | exact hk.1 | exact hk.2 | exact hk.1.1 | exact hk.1.2 | exact hk.2.1 | exact hk.2.2 | exact hk.1.1.1 | exact hk.1.1.2 | exact hk.2.2.1 | exact hk.2.2.2))) hg hat); have n1_ := Aside0.mk (hb); have n2_ := Aside0.mk (Kept.of_grown (S := (fun k_ => P0_ k_)) hg (by repeat (first | (with_reducible first | exact HK.out | apply Kept.alloc | apply Kept.drewN | apply Kept.drew) | exact HK.out)) (fun k_ e_ => (HO0.out.1 k_ e_).1)); have n3_ := Aside0.mk (ho); clear HO113; clear HB; clear HK; clear HO0; have HO113 := n0_; have HB := n1_; have HK := n2_; have HO116 := n3_; clear n0_ n1_ n2_ n3_; clear ho hb hg hat))
    go_ret
    exact ⟨_, by first | rfl | (simp [errW_none, errW_some] <;> rfl) | (simp [*, errW_none, errW_some] <;> rfl), by (with_reducible repeat (first | apply Kd.R_alloc | apply Kd.R_drewN | apply Kd.R_drew)); exact Kd.R_mono HO116.out (fun _ hk => by first | exact hk.1 | (and_intros <;> first | exact hk | exact hk.1 | exact hk.2 | exact hk.1.1 | exact hk.1.2 | exact hk.2.1 | exact hk.2.2 | exact hk.1.1.1 | exact hk.1.1.2 | exact hk.2.2.1 | exact hk.2.2.2)), by repeat (first | (with_reducible first | exact HB.out | apply below_alloc | apply pw_below_drewN | apply below_drew1) | exact HB.out), by repeat (first | (with_reducible first | exact HK.out | apply Kept.alloc | apply Kept.drewN | apply Kept.drew) | exact HK.out)⟩
  · rw [if_neg c3] at H
    exact absurd H (by simp)

-- NOT PRINTED: function 22 (seg_flags)

/-! ### inet_fold: function 27 -/
def inet_fold.l0 : Nat → Int → Option (Int)
  | 0, _ => none
  | k + 1, x0 => if x0 > 65535 then (inet_fold.l0 k (wrap64 ((x0 / 65536) + (Go.bits .and .i64 x0 65535)))) else (some x0)
def inet_fold.f (k : Nat) (a0 : Int) : Option (Int) := inet_fold.l0 k a0
theorem inet_fold.mono_l : ∀ k, (∀ y0, LeO (inet_fold.l0 k y0) (inet_fold.l0 (k + 1) y0))
  | 0 => fun _ r h => by simp [inet_fold.l0] at h
  | k + 1 => by
    have ih0 := inet_fold.mono_l k
    · intro y0
      unfold inet_fold.l0
      repeat' first
      | (with_reducible exact ih0 _)
      | (with_reducible exact LeO.refl _)
      | (with_reducible exact LeO.none _)
      | (with_reducible refine LeO.ite ?_ ?_)
      | (with_reducible refine LeO.bind ?_ (fun _ => ?_))
      | exact ih0 _
      | exact LeO.none _
      | refine LeO.ite ?_ ?_
      | refine LeO.bind ?_ (fun _ => ?_)
theorem inet_fold.mono : ∀ a0 k, LeO (inet_fold.f k a0) (inet_fold.f (k + 1) a0) := by
  intro a0 k
  have ih0 := inet_fold.mono_l k
  unfold inet_fold.f
  repeat' first
      | (with_reducible exact ih0 _)
      | (with_reducible exact LeO.refl _)
      | (with_reducible exact LeO.none _)
      | (with_reducible refine LeO.ite ?_ ?_)
      | (with_reducible refine LeO.bind ?_ (fun _ => ?_))
      | exact ih0 _
      | exact LeO.none _
      | refine LeO.ite ?_ ?_
      | refine LeO.bind ?_ (fun _ => ?_)
set_option maxHeartbeats 8000000 in
set_option maxRecDepth 100000 in
theorem inet_fold.calls (k : Nat) (a0 : Int) (r : Int) (w : World) (h : inet_fold.f k a0 = some r) :
    Calls Try.prog 27 #[.int .i64 a0] w fun e w' => e = .returned (.int .i64 r) ∧ Drawn0 w w' := by
  have H : (inet_fold.l0 k a0) = some r := h
  clear h
  have H' := Aside0.mk H
  clear H
  go_enter Try.func27, Try.ntmps27
  go_wp2
  go_loopg [0] k (fun kq v0 w' => ∃ (x0_1 : Int), v0 = .int .i64 x0_1 ∧ Aside0 (inet_fold.l0 kq x0_1 = some r) ∧ Aside0 (kq ≤ k) ∧ Drawn0 w w')
  case atStart => exact ⟨(a0), (by first | rfl | (simp; done) | (simp [*]; done)), H', ⟨Nat.le_refl _⟩, by repeat (first | exact Drawn0.refl _ | apply Drawn0.step)⟩
  case round =>
    clear H'
    obtain ⟨x0_1, rfl, HA, HK1, ⟨m1, rfl⟩⟩ := hrel
    cases gk with
    | zero => exact absurd HA.out (by simp [inet_fold.l0])
    | succ k1 =>
      have H := HA.out
      clear HA
      simp only [inet_fold.l0] at H
      by_cases c2 : x0_1 > 65535
      · rw [if_pos c2] at H
        have c2b0 : decide (65535 < x0_1) = true := decide_eq_true c2
        clear c2
        have H' := Aside0.mk H
        clear H
        go_wp2
        go_roundg k1
        case measure => have := HK1.out; omega
        case rel => exact ⟨(wrap64 ((x0_1 / 65536) + (Go.bits .and .i64 x0_1 65535))), (by first | rfl | (simp; done) | (simp [*]; done)), H', ⟨by have := HK1.out; omega⟩, by repeat (first | exact Drawn0.refl _ | apply Drawn0.step)⟩
      · rw [if_neg c2] at H
        have c2b0 : decide (65535 < x0_1) = false := decide_eq_false c2
        clear c2
        obtain rfl := Option.some.inj H
        go_wp2
        go_ret
        exact ⟨by first | rfl | (simp; done) | (simp [*]; done), by repeat (first | exact Drawn0.refl _ | apply Drawn0.step)⟩

/-! ### inet_Fold: function 17 -/
def inet_Fold.l0 : Nat → Int → List Int → Int → Int → Option (Int)
  | 0, _, _, _, _ => none
  | k + 1, x3, x6, x7, x8 => if x8 < x7 then (if 0 ≤ x8 then (if x8 < (x6.length : Int) then (if (Int.tmod x8 2) = 0 then (inet_Fold.l0 k (wrap64 (x3 + (wrap64 ((wrap64 (rd x6 x8)) * 256)))) x6 x7 (wrap64 (x8 + 1))) else (inet_Fold.l0 k (wrap64 (x3 + (wrap64 (rd x6 x8)))) x6 x7 (wrap64 (x8 + 1)))) else (none)) else (none)) else ((inet_fold.f k x3).bind fun t118 => (some t118))
def inet_Fold.f (k : Nat) (l0 : List Int) : Option (Int) := inet_Fold.l0 k 0 l0 (l0.length : Int) 0
theorem inet_Fold.mono_l : ∀ k, (∀ y0 y1 y2 y3, LeO (inet_Fold.l0 k y0 y1 y2 y3) (inet_Fold.l0 (k + 1) y0 y1 y2 y3))
  | 0 => fun _ _ _ _ r h => by simp [inet_Fold.l0] at h
  | k + 1 => by
    have ih0 := inet_Fold.mono_l k
    · intro y0 y1 y2 y3
      unfold inet_Fold.l0
      repeat' first
      | (with_reducible exact ih0 _ _ _ _)
      | (with_reducible exact inet_fold.mono _ _)
      | (with_reducible exact LeO.refl _)
      | (with_reducible exact LeO.none _)
      | (with_reducible refine LeO.ite ?_ ?_)
      | (with_reducible refine LeO.bind ?_ (fun _ => ?_))
      | exact ih0 _ _ _ _
      | exact inet_fold.mono _ _
      | exact LeO.none _
      | refine LeO.ite ?_ ?_
      | refine LeO.bind ?_ (fun _ => ?_)
theorem inet_Fold.mono : ∀ a0 k, LeO (inet_Fold.f k a0) (inet_Fold.f (k + 1) a0) := by
  intro a0 k
  have ih0 := inet_Fold.mono_l k
  unfold inet_Fold.f
  repeat' first
      | (with_reducible exact ih0 _ _ _ _)
      | (with_reducible exact inet_fold.mono _ _)
      | (with_reducible exact LeO.refl _)
      | (with_reducible exact LeO.none _)
      | (with_reducible refine LeO.ite ?_ ?_)
      | (with_reducible refine LeO.bind ?_ (fun _ => ?_))
      | exact ih0 _ _ _ _
      | exact inet_fold.mono _ _
      | exact LeO.none _
      | refine LeO.ite ?_ ?_
      | refine LeO.bind ?_ (fun _ => ?_)
set_option maxHeartbeats 8000000 in
set_option maxRecDepth 100000 in
theorem inet_Fold.calls (k : Nat) (A0 : Option Addr) (c0 : Nat) (l0 : List Int) (r : Int) (w : World) (hr0 : Kd.C (Kd.int .u8) w A0 l0.length l0) (hc0 : l0.length ≤ c0) (h : inet_Fold.f k l0 = some r) :
    Calls Try.prog 17 #[.slice A0 l0.length c0] w fun e w' => e = .returned (.int .i64 r) ∧ Drawn0 w w' := by
  have HR0 := Aside0.mk hr0
  have HC0 := Aside0.mk hc0
  clear hr0 hc0
  have H : (inet_Fold.l0 k 0 l0 (l0.length : Int) 0) = some r := h
  clear h
  have H' := Aside0.mk H
  clear H
  go_enter Try.func17, Try.ntmps17
  go_wp2
  go_loopg [3, 8] k (fun kq v3 v8 w' => ∃ (x3_1 : Int) (x8_1 : Int), v3 = .int .i64 x3_1 ∧ v8 = .int .i64 x8_1 ∧ Aside0 (inet_Fold.l0 kq x3_1 l0 (l0.length : Int) x8_1 = some r) ∧ Aside0 (kq ≤ k) ∧ Drawn0 w w')
  case atStart => exact ⟨(0), (0), (by first | rfl | (simp; done) | (simp [*]; done)), (by first | rfl | (simp; done) | (simp [*]; done)), H', ⟨Nat.le_refl _⟩, by repeat (first | exact Drawn0.refl _ | apply Drawn0.step)⟩
  case round =>
    clear H'
    try clear c1
    obtain ⟨x3_1, x8_1, rfl, rfl, HA, HK1, ⟨m1, rfl⟩⟩ := hrel
    cases gk with
    | zero => exact absurd HA.out (by simp [inet_Fold.l0])
    | succ k1 =>
      have H := HA.out
      clear HA
      simp only [inet_Fold.l0] at H
      by_cases c2 : x8_1 < (l0.length : Int)
      · rw [if_pos c2] at H
        have c2b0 : decide (x8_1 < (l0.length : Int)) = true := decide_eq_true c2
        clear c2
        by_cases c3 : 0 ≤ x8_1
        · rw [if_pos c3] at H
          have c3b0 : decide (0 ≤ x8_1) = true := decide_eq_true c3
          clear c3
          by_cases c4 : x8_1 < (l0.length : Int)
          · rw [if_pos c4] at H
            have c4b0 : decide (x8_1 < (l0.length : Int)) = true := decide_eq_true c4
            clear c4
            by_cases c5 : (Int.tmod x8_1 2) = 0
            · rw [if_pos c5] at H
              have c5b0 : ((Int.tmod x8_1 2) == 0) = true := beq_iff_eq.mpr c5
              have c5b1 : ((Int.tmod x8_1 2) != 0) = false := bne_eq_false_iff_eq.mpr c5
              clear c5
              have H' := Aside0.mk H
              clear H
              have p117 : 0 ≤ (x8_1 : Int) := of_decide_eq_true (by first | (with_reducible assumption) | assumption)
              have q117 : x8_1 < (l0.length : Int) := of_decide_eq_true (by first | (with_reducible assumption) | assumption)
              obtain ⟨ad117, e117, hx117_0⟩ := Kd.at_int HR0.out x8_1 p117 q117
              cases e117
              replace p117 := eq_true p117
              replace q117 := eq_true q117
              go_wp2
              go_roundg k1
              case measure => have := HK1.out; omega
              case rel => exact ⟨(wrap64 (x3_1 + (wrap64 ((wrap64 (rd l0 x8_1)) * 256)))), (wrap64 (x8_1 + 1)), (by first | rfl | (simp; done) | (simp [*]; done)), (by first | rfl | (simp; done) | (simp [*]; done)), H', ⟨by have := HK1.out; omega⟩, by repeat (first | exact Drawn0.refl _ | apply Drawn0.step)⟩
            · rw [if_neg c5] at H
              have c5b0 : ((Int.tmod x8_1 2) == 0) = false := beq_eq_false_iff_ne.mpr c5
              have c5b1 : ((Int.tmod x8_1 2) != 0) = true := bne_iff_ne.mpr c5
              have H' := Aside0.mk H
              clear H
              have p117 : 0 ≤ (x8_1 : Int) := of_decide_eq_true (by first | (with_reducible assumption) | assumption)
              have q117 : x8_1 < (l0.length : Int) := of_decide_eq_true (by first | (with_reducible assumption) | assumption)
              obtain ⟨ad117, e117, hx117_0⟩ := Kd.at_int HR0.out x8_1 p117 q117
              cases e117
              replace p117 := eq_true p117
              replace q117 := eq_true q117
              go_wp2
              go_roundg k1
              case measure => have := HK1.out; omega
              case rel => exact ⟨(wrap64 (x3_1 + (wrap64 (rd l0 x8_1)))), (wrap64 (x8_1 + 1)), (by first | rfl | (simp; done) | (simp [*]; done)), (by first | rfl | (simp; done) | (simp [*]; done)), H', ⟨by have := HK1.out; omega⟩, by repeat (first | exact Drawn0.refl _ | apply Drawn0.step)⟩
          · rw [if_neg c4] at H
            exact absurd H (by simp)
        · rw [if_neg c3] at H
          exact absurd H (by simp)
      · rw [if_neg c2] at H
        have c2b0 : decide (x8_1 < (l0.length : Int)) = false := decide_eq_false c2
        clear c2
        replace H := Option.bind_eq_some_iff.mp H
        obtain ⟨t118, A60, H⟩ := H
        replace H : (some t118) = some r := H
        have A6 := Aside0.mk A60
        clear A60
        obtain rfl := Option.some.inj H
        go_wp2_with (first | ((with_reducible refine gate_callee (f := 27) rfl ?_); refine goesL_ (some 27) rfl rfl Try.func27 (by kernel_rfl) rfl #[.int .i64 x3_1] rfl (by (try simp only [List.map_toArray, List.map_cons, List.map_nil]); first | done | rfl | (simp only [List.length_drop, List.length_take]; rfl)) ?_; (with_reducible refine (inet_fold.calls k1 x3_1 t118 _ A6.out).mono ?_); rintro e w' ⟨rfl, ⟨nd, rfl⟩⟩; refine ⟨_, rfl, ?_⟩))
        go_ret
        exact ⟨by first | rfl | (simp; done) | (simp [*]; done), by repeat (first | exact Drawn0.refl _ | apply Drawn0.step)⟩

/-! ### inet_Sum: function 23 -/
def inet_Sum.f (k : Nat) (l0 : List Int) : Option (Int) := (inet_Fold.f k l0).bind fun t119 => (some (wrap64 (65535 - t119)))
theorem inet_Sum.mono : ∀ a0 k, LeO (inet_Sum.f k a0) (inet_Sum.f (k + 1) a0) := by
  intro a0 k
  unfold inet_Sum.f
  repeat' first
      | (with_reducible exact inet_Fold.mono _ _)
      | (with_reducible exact LeO.refl _)
      | (with_reducible exact LeO.none _)
      | (with_reducible refine LeO.ite ?_ ?_)
      | (with_reducible refine LeO.bind ?_ (fun _ => ?_))
      | exact inet_Fold.mono _ _
      | exact LeO.none _
      | refine LeO.ite ?_ ?_
      | refine LeO.bind ?_ (fun _ => ?_)
set_option maxHeartbeats 8000000 in
set_option maxRecDepth 100000 in
theorem inet_Sum.calls (k : Nat) (A0 : Option Addr) (c0 : Nat) (l0 : List Int) (r : Int) (w : World) (hr0 : Kd.C (Kd.int .u8) w A0 l0.length l0) (hc0 : l0.length ≤ c0) (h : inet_Sum.f k l0 = some r) :
    Calls Try.prog 23 #[.slice A0 l0.length c0] w fun e w' => e = .returned (.int .i64 r) ∧ Drawn0 w w' := by
  have HR0 := Aside0.mk hr0
  have HC0 := Aside0.mk hc0
  clear hr0 hc0
  have H : ((inet_Fold.f k l0).bind fun t119 => (some (wrap64 (65535 - t119)))) = some r := h
  clear h
  replace H := Option.bind_eq_some_iff.mp H
  obtain ⟨t119, A20, H⟩ := H
  replace H : (some (wrap64 (65535 - t119))) = some r := H
  have A2 := Aside0.mk A20
  clear A20
  obtain rfl := Option.some.inj H
  go_enter Try.func23, Try.ntmps23
  go_wp2_with (first | ((with_reducible refine gate_callee (f := 17) rfl ?_); refine goesL_ (some 4) rfl rfl Try.func17 (by kernel_rfl) rfl #[.slice A0 l0.length c0] rfl (by (try simp only [List.map_toArray, List.map_cons, List.map_nil]); first | done | rfl | (simp only [List.length_drop, List.length_take]; rfl)) ?_; (with_reducible refine (inet_Fold.calls k _ _ l0 t119 _ ?side1 ?side2 A2.out).mono ?_); (case side1 => repeat (first | exact HR0.out | (with_reducible refine Kd.C_alloc ?_ _) | (with_reducible refine Kd.C_drewN ?_ _) | (with_reducible refine Kd.C_drew ?_))); (case side2 => exact HC0.out); rintro e w' ⟨rfl, ⟨nd, rfl⟩⟩; refine ⟨_, rfl, ?_⟩))
  go_ret
  exact ⟨by first | rfl | (simp; done) | (simp [*]; done), by repeat (first | exact Drawn0.refl _ | apply Drawn0.step)⟩

end Go.Proofs.Ytblkhkipbcpaiaa.PTopSealed
