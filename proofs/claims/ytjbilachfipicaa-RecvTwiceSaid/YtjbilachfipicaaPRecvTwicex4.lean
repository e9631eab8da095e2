/- Printed by a program of this session (wip/myprint.py): Go functions of the law as Lean functions, and the proof that the code comes to these answers. -/
import Derived.Test.YtjbilachfipicaaPRecvTwicex0
import Derived.Test.YtjbilachfipicaaPRecvTwicex3
namespace Go.Proofs.Ytjbilachfipicaa.PRecvTwice
open Go.RowKit Go.Proofs.YtjbilachfipicaaW.PrintWords Go.Proofs.YtjbilachfipicaaW.PrintLast Go.Proofs.YtjbilachfipicaaW.PrintMore
attribute [local go_sem] max2_int min2_int max_two min_two max_three min_three max_four min_four   -- for this text's walks alone
attribute [local go_sem] pn_setCell_drewN
set_option linter.unusedVariables false
set_option linter.unusedSimpArgs false

/-! ### hole_Sacks: function 40, by hand -/
section
attribute [local go_sem] Oper.semAt_some
/-- what has come of a row from behind -/
def bk (zs : List S56) (k : Nat) : List (Nat × S56) := (List.range k).map fun j => (zs.length - 1 - j, zs.getD (zs.length - 1 - j) z56)
theorem bk_succ (zs : List S56) (k : Nat) : bk zs (k + 1) = bk zs k ++ [(zs.length - 1 - k, zs.getD (zs.length - 1 - k) z56)] := by simp [bk, List.range_succ]
theorem bk_length (zs : List S56) (k : Nat) : (bk zs k).length = k := by simp [bk]
def keepB (n₀ Bs : Nat) (W W' : World) : Prop := Below n₀ W W' ∧ W'.heap[Bs]? = W.heap[Bs]?
def enc56 (x : Nat × S56) : Array Value := #[.int .i64 (x.1 : Int), .agg #[.int .i64 x.2.f0, .int .i64 x.2.f1]]
set_option maxRecDepth 100000 in
set_option maxHeartbeats 4000000 in
theorem back1_in (F : Fence) (n : Nat) (h37 : F.fn 75) (hro : F.round = none) (hn : 1 ≤ n) (l Bs n₀ cap : Nat) (A : Option Addr) (zs : List S56) (hreach : zs.length ≤ 1000) (W0 : World) (hn0 : n₀ = W0.heap.size) (hC : Kd.C k56 W0 A zs.length zs) (J Jx : List (Nat × S56) → World → Prop)
    (hY : ∀ pre x W, J pre W → pre.length < zs.length → YieldAt F (n - 1) Try.prog l (enc56 x) W fun e W' =>
      (e = .returned (.bool true) ∧ J (pre ++ [x]) W' ∧ keepB n₀ Bs W W') ∨ (e = .returned (.bool false) ∧ Jx (pre ++ [x]) W'))
    (W : World) (hBs : Boxed W Bs 32 (.slice A zs.length cap)) (hW : Below n₀ W0 W) (h0 : J [] W) :
    CallsIn F n Try.prog 75 #[.func (.yield l) #[] #[], .pointer (some ⟨Bs, 0, none⟩)] W fun e W' => (∃ v, e = .returned v) ∧
      ((∃ ys, ys = bk zs zs.length ∧ J ys W') ∨ (∃ pre, (∃ k, k ≤ zs.length ∧ pre = bk zs k) ∧ Jx pre W')) := by
  have hu29 := Try.underlying56
  refine callsIn_of_wp Try.func75 rfl h37 ?_ hro
  simp only [Try.ntmps75, List.size_toArray, List.length_cons, List.length_nil, Nat.reduceAdd, Nat.reduceSub, Array.replicate_succ, Array.replicate_zero, List.push_toArray, List.append_toArray, List.nil_append, List.cons_append]
  have hb0 := hBs.cell
  gi_wp2
  gi_loopw [3] (fun i wr => ∃ k : Nat, k ≤ zs.length ∧ i = .int .i64 ((zs.length : Int) - 1 - (k : Int)) ∧ J (bk zs k) wr ∧ keepB n₀ Bs W wr) (fun i _ => (intOf i + 1).toNat)
  case atStart => exact ⟨0, Nat.zero_le _, by go_num, h0, Below.refl _ _, rfl⟩
  case round =>
    obtain ⟨k, hk, rfl, hJs, hnx⟩ := hrel
    by_cases hlt : k < zs.length
    · obtain ⟨m, hm⟩ : ∃ m : Nat, (zs.length : Int) - 1 - (k : Int) = (m : Int) := ⟨zs.length - 1 - k, by omega⟩
      have hm2 : zs.length - 1 - k = m := by omega
      rw [hm]
      obtain ⟨fn, tmps, assign, body, hy, hR⟩ := hY _ (m, zs.getD m z56) wr hJs (by rw [bk_length]; exact hlt)
      have hb1 : Boxed wr Bs 32 (.slice A zs.length cap) := hnx.2.trans hBs
      have hc := hb1.cell
      obtain ⟨ad, rfl, p0, p1⟩ := at_T56 (Kd.C_below hC (hn0 ▸ hW.trans hnx.1)) (m : Int) (by omega) (by omega)
      rw [Int.toNat_natCast] at p0 p1
      rw [show rd_T56 zs (m : Int) = zs.getD m z56 by rw [rd_T56, Int.toNat_natCast]] at p0 p1
      obtain ⟨x, hx⟩ : ∃ x, zs.getD m z56 = x := ⟨_, rfl⟩
      have HBK := Aside0.mk (show bk zs (k + 1) = bk zs k ++ [(m, x)] by rw [bk_succ, hm2, hx])
      rw [hx] at p0 p1 hy hR
      unfold enc56 at hy
      dsimp only at hy
      have hml : (m : Int) < (zs.length : Int) := by omega
      have hml2 : m < zs.length := by omega
      have HRR := Aside0.mk hR
      have HJS := Aside0.mk hJs
      clear hR hJs hx hm2
      gi_wp2
      refine HRR.out.mono ?_
      rintro e W3 (⟨rfl, hJ3, hk3⟩ | ⟨rfl, hJx3⟩)
      · gi_wp2
        go_roundw
        case rel => exact ⟨k + 1, by omega, by go_num, by rw [HBK.out]; exact hJ3, hnx.1.trans hk3.1, hk3.2.trans hnx.2⟩
        case measure => (simp [intOf] <;> omega)
      · gi_wp2
        refine bodyPost_ret (results_none rfl _ _ _) rfl ?_
        exact ⟨⟨_, rfl⟩, .inr ⟨_, ⟨k + 1, by omega, HBK.out.symm⟩, hJx3⟩⟩
    · obtain rfl : k = zs.length := by omega
      have hm1 : (zs.length : Int) - 1 - (zs.length : Int) = -1 := by omega
      rw [hm1]
      gi_wp2
      go_end0
      exact ⟨⟨_, rfl⟩, .inl ⟨_, rfl, hJs⟩⟩
set_option maxHeartbeats 1000000 in
theorem back_in (F : Fence) (n : Nat) (h32 : F.fn 58) (hro : F.round = none) (a : Option Addr) (len cap : Nat) (w : World) :
    CallsIn F n Try.prog 58 #[.slice a len cap] w fun e w' => e = .returned (.func (.func 75) #[] #[.pointer (some ⟨w.heap.size, 0, none⟩)]) ∧ w' = w.alloc (.cells #[.slice a len cap] 32) := by
  refine callsIn_of_wp Try.func58 rfl h32 ?_ hro
  simp only [Try.ntmps58, List.size_toArray, List.length_cons, List.length_nil, Nat.reduceAdd, Nat.reduceSub, Array.replicate_succ, Array.replicate_zero, List.push_toArray, List.append_toArray, List.nil_append, List.cons_append]
  gi_wp2
  go_ret
  exact ⟨rfl, rfl⟩
theorem back_stops (F : Fence) (n : Nat) (h37 : F.fn 75) (hro : F.round = none) (hn : 1 ≤ n) (Bs cap : Nat) (A : Option Addr) (zs : List S56) (hreach : zs.length ≤ 1000) (W0 w : World) (hBs : Boxed w Bs 32 (.slice A zs.length cap)) (hC : Kd.C k56 W0 A zs.length zs) (hB : Below W0.heap.size W0 w) :
    SeqStopsK F n Try.prog 75 #[.pointer (some ⟨Bs, 0, none⟩)] enc56 (keepB W0.heap.size Bs) (fun ys => ys = bk zs zs.length) (fun pre => ∃ k, k ≤ zs.length ∧ pre = bk zs k) zs.length w := fun l J Jx W hW _ _ hY h0 =>
  back1_in F n h37 hro hn l Bs W0.heap.size cap A zs hreach W0 rfl hC J Jx hY W ((hW.block Bs hBs.lt).trans hBs) (below_step hB hW) h0
/-- an operation that is no call of Go's: what holds of it outside a fence holds within -/
theorem in_of_out {F : Fence} {n : Nat} {P : Program} {o : Oper} {a : Act} {w : World} {K : Act → World → Prop} {Q : Exit → Act → World → Prop} {s x : Operand} {t : TypeId} (hop : o.op = .call { callee := .builtin .append, args := #[s, x], argTypes := #[t, t] }) (h : Oper.wp P o a w K (fun _ _ _ => False)) : Oper.wpIn F n P o a w K Q := by
  unfold Oper.wpIn
  refine ⟨by simp [Oper.about, hop, resolve, Target.leads, Sem.run_pure], ?_⟩
  rw [Oper.semAt_plain F _ _ (by rw [hop]; intro c hc'; cases hc')]
  unfold Oper.wp at h
  simp only [execOp, hop, resolve, invoke, builtin, Sem.run_bind, Sem.run_pure, Result.andThen_ok, List.map_toArray, List.map_cons, List.map_nil] at h ⊢
  generalize (Builtin.append_ #[t, t] o.type #[a.eval s, a.eval x]).run P w = r at h ⊢
  rcases r with ⟨v, w'⟩ | ⟨hh, w'⟩
  · exact h
  · cases hh <;> first | exact h.elim | exact h
section
variable {F : Fence} {n : Nat} {P : Program} {ops : Array Oper} {o : Oper} {rest : List Oper} {a : Act} {Q : Exit → Act → World → Prop} {α : Type}
theorem wanted_all {o : Oper} (hg : o.guard = none) (t : Array Value) : Region.wanted o (yielded #[] t) = true := by
  unfold Region.wanted
  rw [hg]
theorem R_append_in (d : Kd α) {w0 W : World} (base : Nat) (hgd : o.guard = none) (s x : Operand) (t e : TypeId) (z : Value) (bytes : Nat)
    (ho : o.op = .call { callee := .builtin .append, args := #[s, x], argTypes := #[t, t] })
    (ht : P.underlying t = some (.slice e)) (hinfo : (P.info? e).map (fun i => (i.zero, i.size, i.bytes)) = some (some z, d.sz, bytes)) (hz : z.cells.size = d.sz) (hs0 : 0 < d.sz) (hb0 : 0 < bytes)
    (v : Value) (xs : List α) (p : α) (cs : List Value) (ok okp : Nat → Prop) (hs : a.eval s = v) (hx : a.eval x = .slice (some ⟨W.heap.size, 0, none⟩) 1 1) (hp : d.M W base okp p cs) (hokp : ∀ k, okp k → ok k ∧ some k ≠ v.ownBlock) (hfresh : ∀ k, W.heap.size ≤ k → ok k)
    (HO : d.R e W base ok v xs) (HB : Below base w0 W) (hbase : base ≤ W.heap.size) (hl : (xs.length + 1) * bytes ≤ 140737488355328)
    (h : ∀ v1 w1, d.R e w1 base ok v1 (xs ++ [p]) → Below base w0 w1 → W.grownBy w1 v.ownBlock → (v1.ownBlock = v.ownBlock ∨ ∃ b, v1.ownBlock = some b ∧ W.heap.size ≤ b) → wpListIn F n P ops Q rest (a.put o.dst v1) w1) :
    wpListIn F n P ops Q (o :: rest) a (W.alloc (.cells cs.toArray e)) := by
  refine wpListIn_plain hgd fun K hK => in_of_out ho ?_
  have hw := wanted_all (o := o) hgd a.tmps
  have := Kd.R_append_step (P := P) (ops := #[]) (o := o) (a := a) (Q := fun _ _ _ => False) (Kc := K) d base hw s x t e z bytes ho ht hinfo hz hs0 hb0 v xs p cs ok okp hs hx hp hokp hfresh HO HB hbase hl (fun v1 w1 h1 h2 h3 h4 => hK _ _ (h v1 w1 h1 h2 h3 h4))
  rwa [if_pos hw] at this
theorem R_append_rows_in (d : Kd α) {Rr : α → List Value → Prop} {w0 W : World} (base : Nat) (hgd : o.guard = none) (s x : Operand) (t e : TypeId) (z : Value) (bytes : Nat)
    (ho : o.op = .call { callee := .builtin .append, args := #[s, x], argTypes := #[t, t] })
    (ht : P.underlying t = some (.slice e)) (hinfo : (P.info? e).map (fun i => (i.zero, i.size, i.bytes)) = some (some z, d.sz, bytes)) (hz : z.cells.size = d.sz) (hs0 : 0 < d.sz) (hb0 : 0 < bytes)
    (v : Value) (xs ys : List α) (A : Option Addr) (m c : Nat) (ok okp : Nat → Prop) (hs : a.eval s = v) (hx : a.eval x = .slice A m c)
    (HO : d.R e W base ok v xs) (HR : ReadsRow Rr d.sz W A m ys) (hKM : ∀ x cs, Rr x cs → d.M W base okp x cs) (hokp : ∀ k, okp k → ok k ∧ some k ≠ v.ownBlock) (hfresh : ∀ k, W.heap.size ≤ k → ok k)
    (HB : Below base w0 W) (hbase : base ≤ W.heap.size) (hl : (xs.length + m) * bytes ≤ 140737488355328)
    (h : ∀ v1 w1, d.R e w1 base ok v1 (xs ++ ys) → Below base w0 w1 → W.grownBy w1 v.ownBlock → (v1.ownBlock = v.ownBlock ∨ ∃ b, v1.ownBlock = some b ∧ W.heap.size ≤ b) → wpListIn F n P ops Q rest (a.put o.dst v1) w1) :
    wpListIn F n P ops Q (o :: rest) a W := by
  refine wpListIn_plain hgd fun K hK => in_of_out ho ?_
  have hw := wanted_all (o := o) hgd a.tmps
  have := Kd.R_append_rows_step (P := P) (ops := #[]) (o := o) (a := a) (Q := fun _ _ _ => False) (Kc := K) d base hw s x t e z bytes ho ht hinfo hz hs0 hb0 v xs ys A m c ok okp hs hx HO HR hKM hokp hfresh HB hbase hl (fun v1 w1 h1 h2 h3 h4 => hK _ _ (h v1 w1 h1 h2 h3 h4))
  rwa [if_pos hw] at this
end
/-- two rows that grow, each in its box -/
structure Bags (W : World) (b base : Nat) (S T : Nat → Prop) (vo vr : Value) (xs ys : List S56) : Prop where
  bo : Boxed W b 32 vo
  br : Boxed W (b + 1) 32 vr
  ro : Kd.R k56 56 W base S vo xs
  rr : Kd.R k56 56 W base T vr ys
  dis : ∀ k, S k → ¬ T k
  low : base ≤ b
def BG (W : World) (b base : Nat) (xs ys : List S56) : Prop := ∃ S T vo vr, Bags W b base S T vo vr xs ys
theorem BG.kept {W W' : World} {b base : Nat} {xs ys : List S56} (h : BG W b base xs ys) {row : Option Nat} (hg : W.grownBy W' row) (hr : ∀ r, row = some r → ∃ o : Obj, W.heap[r]? = some o ∧ o.isCells = false) : BG W' b base xs ys := by
  obtain ⟨S, T, vo, vr, h⟩ := h
  have hne : ∀ (k : Nat) (cs : Array Value) (t : Nat), W.heap[k]? = some (.cells cs t (0, 0)) → some k ≠ row := fun k cs t hk e => by
    obtain ⟨o, ho, hc⟩ := hr k e.symm
    rw [hk] at ho
    cases ho
    cases hc
  have hk : ∀ k : Nat, (∃ q, q ∈ 56 :: k56.E ∧ ∃ cells, W.heap[k]? = some (.cells cells q (0, 0))) → some k ≠ row := fun k ⟨_, _, cells, hc⟩ => hne k cells _ hc
  exact ⟨S, T, vo, vr, h.bo.kept hg (hne _ _ _ h.bo), h.br.kept hg (hne _ _ _ h.br), Kd.R_mono (Kd.R_grown (Kd.R_bound h.ro) hg (fun k g => hk k g.2.2.2)) (fun _ g => g.1), Kd.R_mono (Kd.R_grown (Kd.R_bound h.rr) hg (fun k g => hk k g.2.2.2)) (fun _ g => g.1), h.dis, h.low⟩
theorem BG.alloc {W : World} {b base : Nat} {xs ys : List S56} (h : BG W b base xs ys) (o : Obj) : BG (W.alloc o) b base xs ys := h.kept (World.grownBy_alloc W o none) (fun _ e => by cases e)
theorem Bags.alloc {W : World} {b base : Nat} {S T : Nat → Prop} {vo vr : Value} {xs ys : List S56} (h : Bags W b base S T vo vr xs ys) (o : Obj) : Bags (W.alloc o) b base S T vo vr xs ys := ⟨h.bo.alloc o, h.br.alloc o, Kd.R_grown h.ro (World.grownBy_alloc W o none) (fun _ _ e => by cases e), Kd.R_grown h.rr (World.grownBy_alloc W o none) (fun _ _ e => by cases e), h.dis, h.low⟩
theorem R_ne29 {W : World} {base g t : Nat} {S : Nat → Prop} {v : Value} {xs : List S56} {cs : Array Value} (h : Kd.R k56 56 W base S v xs) (hg : W.heap[g]? = some (.cells cs t (0, 0))) (ht : t ≠ 56) : some g ≠ v.ownBlock := fun e => by
  obtain ⟨cells, hc⟩ := Kd.R_typed h g e.symm
  rw [hg] at hc
  injection hc with hc
  injection hc with _ hc
  exact ht hc
theorem Bags.grow0 {W w1 : World} {b base : Nat} {S T : Nat → Prop} {vo vr u : Value} {xs ys zs : List S56} (h : Bags W b base S T vo vr xs ys) (hg : W.grownBy w1 vo.ownBlock) (hq : Kd.R k56 56 w1 base (fun k => S k ∨ W.heap.size ≤ k) u zs) : Boxed w1 b 32 vo ∧ BG (w1.setCell ⟨b, 0, none⟩ u) b base zs ys := by
  have b1 := h.bo.kept hg (R_ne29 h.ro h.bo (by decide))
  have b2 := h.br.kept hg (R_ne29 h.ro h.br (by decide))
  have r2 := Kd.R_grown (Kd.R_mono (Kd.R_bound h.rr) (ok' := fun k => T k ∧ k < W.heap.size) (fun k g => ⟨g.1, g.2.2.1⟩)) hg (fun k g e => h.dis k (h.ro.1 k e.symm) g.1)
  refine ⟨b1, fun k => S k ∨ W.heap.size ≤ k, fun k => T k ∧ k < W.heap.size, u, vr, b1.set u, b2.other (by omega) u, Kd.R_set hq b1 (by decide) _ _, Kd.R_set r2 b1 (by decide) _ _, ?_, h.low⟩
  rintro k (g | g) ⟨g1, g2⟩
  · exact h.dis k g g1
  · omega
theorem Bags.grow1 {W w1 : World} {b base : Nat} {S T : Nat → Prop} {vo vr u : Value} {xs ys zs : List S56} (h : Bags W b base S T vo vr xs ys) (hg : W.grownBy w1 vr.ownBlock) (hq : Kd.R k56 56 w1 base (fun k => T k ∨ W.heap.size ≤ k) u zs) : Boxed w1 (b + 1) 32 vr ∧ BG (w1.setCell ⟨b + 1, 0, none⟩ u) b base xs zs := by
  have b1 := h.br.kept hg (R_ne29 h.rr h.br (by decide))
  have b2 := h.bo.kept hg (R_ne29 h.rr h.bo (by decide))
  have r2 := Kd.R_grown (Kd.R_mono (Kd.R_bound h.ro) (ok' := fun k => S k ∧ k < W.heap.size) (fun k g => ⟨g.1, g.2.2.1⟩)) hg (fun k g e => h.dis k g.1 (h.rr.1 k e.symm))
  refine ⟨b1, fun k => S k ∧ k < W.heap.size, fun k => T k ∨ W.heap.size ≤ k, vo, u, b2.other (by omega) u, b1.set u, Kd.R_set r2 b1 (by decide) _ _, Kd.R_set hq b1 (by decide) _ _, ?_, h.low⟩
  rintro k ⟨g1, g2⟩ (g | g)
  · exact h.dis k g1 g
  · omega
theorem two_blocks29 (w : World) (a b : Obj) : ((w.alloc a).alloc b).heap[w.heap.size]? = some a ∧ ((w.alloc a).alloc b).heap[w.heap.size + 1]? = some b := by
  have e : (w.alloc a).heap.size = w.heap.size + 1 := by simp
  refine ⟨(Below.heap_alloc _ _ _ (by omega)).trans Array.getElem?_push_size, ?_⟩
  have h : ((w.alloc a).alloc b).heap[(w.alloc a).heap.size]? = some b := Array.getElem?_push_size
  rwa [e] at h
def inR (x : Int) (r : S56) : Bool := decide (r.f0 ≤ x) && decide (x < r.f1)
def outs (x : Int) (pre : List (Nat × S56)) : List S56 := (pre.map (·.2)).filter (inR x)
def rests (x : Int) (pre : List (Nat × S56)) : List S56 := (pre.map (·.2)).filter (fun r => !inR x r)
def sackL (x : Int) (l : List S56) (n : Int) : List S56 := (l.reverse.filter (inR x) ++ l.reverse.filter (fun r => !inR x r)).take n.toNat
theorem outs_t (x : Int) (pre : List (Nat × S56)) (y : Nat × S56) (h : inR x y.2 = true) : outs x (pre ++ [y]) = outs x pre ++ [y.2] ∧ rests x (pre ++ [y]) = rests x pre := by
  unfold outs rests
  rw [List.map_append, List.filter_append, List.filter_append]
  simp [h]
theorem outs_f (x : Int) (pre : List (Nat × S56)) (y : Nat × S56) (h : inR x y.2 = false) : outs x (pre ++ [y]) = outs x pre ∧ rests x (pre ++ [y]) = rests x pre ++ [y.2] := by
  unfold outs rests
  rw [List.map_append, List.filter_append, List.filter_append]
  simp [h]
theorem outs_len (x : Int) (pre : List (Nat × S56)) : (outs x pre).length ≤ pre.length ∧ (rests x pre).length ≤ pre.length := by
  unfold outs rests
  have h1 := List.length_filter_le (inR x) (pre.map (·.2))
  have h2 := List.length_filter_le (fun r => !inR x r) (pre.map (·.2))
  rw [List.length_map] at h1 h2
  exact ⟨h1, h2⟩
theorem bk_all (zs : List S56) : (bk zs zs.length).map (·.2) = zs.reverse := by
  unfold bk
  rw [List.map_map]
  apply List.ext_getElem
  · simp
  · intro i h1 h2
    simp at h1 h2
    simp only [List.getElem_map, List.getElem_range, Function.comp, List.getElem_reverse]
    rw [List.getD_eq_getElem?_getD, List.getElem?_eq_getElem (by omega)]
    rfl
theorem BG.new (w : World) (base : Nat) (hb : base ≤ w.heap.size) : BG ((w.alloc (.cells #[.slice none 0 0] 32)).alloc (.cells #[.slice none 0 0] 32)) w.heap.size base [] [] := by
  have h := two_blocks29 w (.cells #[.slice none 0 0] 32) (.cells #[.slice none 0 0] 32)
  exact ⟨fun _ => False, fun _ => False, _, _, h.1, h.2, Kd.R_nil _ _ _ _ _, Kd.R_nil _ _ _ _ _, fun _ h => h.elim, hb⟩
theorem keepB_t {n₀ Bs : Nat} {A B C : World} (h : keepB n₀ Bs A B) (k : keepB n₀ Bs B C) : keepB n₀ Bs A C := ⟨h.1.trans k.1, k.2.trans h.2⟩
theorem keepB_b {n₀ Bs : Nat} {w : World} (hn : n₀ ≤ w.heap.size) (hb : Bs < w.heap.size) (W : World) (l : Nat) (o o' : Obj) (hl : w.heap.size ≤ l) (h : W.heap[l]? = some o) (hc : o.isCells = false) (hw : o.isWalk = false) : keepB n₀ Bs W (W.putObj l o') :=
  ⟨belowK_b hn W l o o' hl h hc hw, World.putObj_heap_other (fun e => by omega)⟩
theorem Bags.step0 {w W w3 : World} {b base L Bs : Nat} {S T : Nat → Prop} {vo vr u vl vs : Value} {xs ys zs : List S56} (h : Bags W b base S T vo vr xs ys) (hL : Boxed W L 3 vl) (hLb : L ≠ b) (hBs : Boxed W Bs 32 vs) (hBsb : Bs ≠ b) (hW : Below base w W) (hg : W.grownBy w3 vo.ownBlock) (hB : Below base W w3) (hq : Kd.R k56 56 w3 base (fun k => S k ∨ W.heap.size ≤ k) u zs) (B : Nat) :
    KeepsFrom B W (w3.setCell ⟨b, 0, none⟩ u) ∧ keepB base Bs W (w3.setCell ⟨b, 0, none⟩ u) ∧ ((BG (w3.setCell ⟨b, 0, none⟩ u) b base zs ys ∧ Boxed (w3.setCell ⟨b, 0, none⟩ u) L 3 vl) ∧ Boxed (w3.setCell ⟨b, 0, none⟩ u) Bs 32 vs) ∧ Below base w (w3.setCell ⟨b, 0, none⟩ u) := by
  have hl1 := hL.kept hg (R_ne29 h.ro hL (by decide))
  have hs1 := hBs.kept hg (R_ne29 h.ro hBs (by decide))
  have ko : KeepsOthers W w3 := KeepsOthers.of_grownBy hg (fun j o ej hj => by
    obtain ⟨cells, hc⟩ := Kd.R_typed h.ro j ej
    rw [hj] at hc
    cases hc
    rfl)
  have hb2 := hB.setCell (p := ⟨b, 0, none⟩) (by have := h.low; show base ≤ b; omega) u
  exact ⟨(ko.trans (KeepsOthers.setCell _ _ _)).from B, ⟨hb2, (hs1.other hBsb u).trans (show W.heap[Bs]? = _ from hBs).symm⟩, ⟨⟨(h.grow0 hg hq).2, hl1.other hLb u⟩, hs1.other hBsb u⟩, hW.trans hb2⟩
theorem Bags.step1 {w W w3 : World} {b base L Bs : Nat} {S T : Nat → Prop} {vo vr u vl vs : Value} {xs ys zs : List S56} (h : Bags W b base S T vo vr xs ys) (hL : Boxed W L 3 vl) (hLb : L ≠ b + 1) (hBs : Boxed W Bs 32 vs) (hBsb : Bs ≠ b + 1) (hW : Below base w W) (hg : W.grownBy w3 vr.ownBlock) (hB : Below base W w3) (hq : Kd.R k56 56 w3 base (fun k => T k ∨ W.heap.size ≤ k) u zs) (B : Nat) :
    KeepsFrom B W (w3.setCell ⟨b + 1, 0, none⟩ u) ∧ keepB base Bs W (w3.setCell ⟨b + 1, 0, none⟩ u) ∧ ((BG (w3.setCell ⟨b + 1, 0, none⟩ u) b base xs zs ∧ Boxed (w3.setCell ⟨b + 1, 0, none⟩ u) L 3 vl) ∧ Boxed (w3.setCell ⟨b + 1, 0, none⟩ u) Bs 32 vs) ∧ Below base w (w3.setCell ⟨b + 1, 0, none⟩ u) := by
  have hl1 := hL.kept hg (R_ne29 h.rr hL (by decide))
  have hs1 := hBs.kept hg (R_ne29 h.rr hBs (by decide))
  have ko : KeepsOthers W w3 := KeepsOthers.of_grownBy hg (fun j o ej hj => by
    obtain ⟨cells, hc⟩ := Kd.R_typed h.rr j ej
    rw [hj] at hc
    cases hc
    rfl)
  have hb2 := hB.setCell (p := ⟨b + 1, 0, none⟩) (by have := h.low; show base ≤ b + 1; omega) u
  exact ⟨(ko.trans (KeepsOthers.setCell _ _ _)).from B, ⟨hb2, (hs1.other hBsb u).trans (show W.heap[Bs]? = _ from hBs).symm⟩, ⟨⟨(h.grow1 hg hq).2, hl1.other hLb u⟩, hs1.other hBsb u⟩, hW.trans hb2⟩
/-- where the walk stands in a round -/
def sackAct (w w1 : World) (a0 : Int) (A1 : Option Addr) (n1 c1 : Nat) (a2 a3 : Int) (Bx : Nat) (x : Nat × S56) : Act := {
      tmps :=
        #[Value.int IntKind.i64 a0, Value.slice A1 n1 c1, Value.int IntKind.i64 a2, Value.int IntKind.i64 a3,
          undef, undef, Value.pointer (some { block := w.heap.size, off := 0 }), undef, Value.slice none 0 0,
          Value.int IntKind.i64 0, Value.pointer (some { block := w1.heap.size, off := 0 }),
          Value.pointer (some { block := w1.heap.size + 1, off := 0 }), undef, Value.pointer (some { block := Bx, off := 0 }), Value.int IntKind.i64 a0,
          Value.slice A1 n1 c1, Value.bool true, Value.bool false, Value.int IntKind.i64 a3, Value.bool false,
          Value.bool false, Value.int IntKind.i64 a3, Value.bool false, Value.bool false, Value.slice A1 n1 c1,
          Value.func (Fn.func 75) #[] #[Value.pointer (some { block := w1.heap.size + 1 + 1, off := 0 })], Value.int .i64 (x.1 : Int), Value.agg #[.int .i64 x.2.f0, .int .i64 x.2.f1],
          undef, undef, undef, undef, undef, undef, undef, undef, undef, undef, undef, undef, undef, undef, undef,
          undef, undef, undef, undef, undef, undef, undef, undef, undef, undef, undef, undef],
      defers := [] }
set_option maxRecDepth 100000 in
set_option maxHeartbeats 4000000 in
theorem sacks_calls (k : Nat) (a0 : Int) (A1 : Option Addr) (c1 : Nat) (l1 : List S56) (a2 a3 : Int) (w : World) (hr1 : Kd.C k56 w A1 l1.length l1) (hc1 : l1.length ≤ c1) (hlen : l1.length ≤ 1000) (h0 : 0 ≤ a3) (h16 : a3 ≤ 16) (hMay : hole_May.f k a0 l1 = some true) :
    Calls Try.prog 40 #[.int .i64 a0, .slice A1 l1.length c1, .int .i64 a2, .int .i64 a3] w fun e w' => ∃ v, e = .returned (.tuple #[v, .int .i64 0]) ∧ Kd.R k56 56 w' w.heap.size (fun _ => True) v (sackL a2 l1 a3) ∧ Below w.heap.size w w' := by
  have hu29 := Try.underlying56
  have HR1 := Aside0.mk hr1
  have HM := Aside0.mk hMay
  have n0 : decide (a3 < 0) = false := decide_eq_false (by omega)
  have n1 : decide (a3 > 16) = false := decide_eq_false (by omega)
  clear hr1 hMay
  refine (callsIn_wide (n := 8)).1 ?_
  refine callsIn_of_wp_marks Try.func40 rfl trivial ?_ rfl
  simp only [Try.ntmps40, List.size_toArray, List.length_cons, List.length_nil, Nat.reduceAdd, Nat.reduceSub, Array.replicate_succ, Array.replicate_zero, List.push_toArray, List.append_toArray, List.nil_append, List.cons_append]
  gi_wp2_with (first
    | (refine ⟨trivial, ?_⟩; gi_at_call 57; refine (callsIn_wide.2 (hole_May.calls k a0 A1 c1 l1 true _ (Kd.C_below HR1.out (below_alloc (Below.refl _ _) _)) hc1 HM.out)).mono ?_; rintro e w1 ⟨rfl, hb1⟩; have HB1 := Aside0.mk hb1; clear hb1)
    | (refine ⟨trivial, ?_⟩; gi_at_call 58; refine (back_in Fence.wide 7 trivial rfl _ _ _ _).mono ?_; rintro e w' ⟨rfl, rfl⟩))
  have hle1 : w.heap.size + 1 ≤ w1.heap.size := by have := HB1.out.size; simp at this; omega
  have hle : w.heap.size ≤ w1.heap.size := by omega
  have hB00 : Below w.heap.size w w1 := ((Below.refl _ w).alloc (Nat.le_refl _) _).trans (by have := HB1.out; exact this.mono (by simp))
  have bL0 : Boxed w1 w.heap.size 3 (.int .i64 a2) := (HB1.out.block _ (by simp)).trans (Boxed.new w 3 (.int .i64 a2))
  have hG0 := BG.new w1 w.heap.size hle
  obtain ⟨W1, hW1⟩ : ∃ W1, (w1.alloc (Obj.cells #[Value.slice none 0 0] 32)).alloc (Obj.cells #[Value.slice none 0 0] 32) = W1 := ⟨_, rfl⟩
  have hs1 : W1.heap.size = w1.heap.size + 1 + 1 := by rw [← hW1]; simp
  have bL1 : Boxed W1 w.heap.size 3 (.int .i64 a2) := by rw [← hW1]; exact (bL0.alloc _).alloc _
  have hB01 : Below w.heap.size w W1 := by rw [← hW1]; exact (hB00.alloc hle _).alloc (by simp; omega) _
  rw [hW1] at hG0 ⊢
  have bS0 := Boxed.new W1 32 (.slice A1 l1.length c1)
  rw [hs1] at bS0
  have hG1 := hG0.alloc (.cells #[.slice A1 l1.length c1] 32)
  have bL2 := bL1.alloc (.cells #[.slice A1 l1.length c1] 32)
  have hB0 := hB01.alloc (by rw [hs1]; omega) (.cells #[.slice A1 l1.length c1] 32)
  obtain ⟨W0, hW0⟩ : ∃ W0, W1.alloc (.cells #[.slice A1 l1.length c1] 32) = W0 := ⟨_, rfl⟩
  have hsz : W0.heap.size = w1.heap.size + 1 + 1 + 1 := by rw [← hW0, World.size_alloc, hs1]
  rw [hW0] at bS0 hG1 bL2 hB0 ⊢
  clear hW0 hW1 hG0 bL0 bL1 hB00 hB01 hs1 HB1
  refine wpIn_rangeFunc_ownH rfl (by decide) (gf := 75) (lb := #[.pointer (some ⟨w1.heap.size + 1 + 1, 0, none⟩)]) rfl trivial (enters_of Try.func75 (by kernel_rfl) rfl)
    (back_stops Fence.wide 7 trivial rfl (by decide) (w1.heap.size + 1 + 1) c1 A1 l1 hlen w W0 bS0 HR1.out hB0) keepB_t (keepB_b (w := W0) (by omega) (by omega)) (Below.refl _ _) (fun _ => rfl)
    (fun pre W => ((BG W w1.heap.size w.heap.size (outs a2 pre) (rests a2 pre) ∧ Boxed W w.heap.size 3 (.int .i64 a2)) ∧ Boxed W (w1.heap.size + 1 + 1) 32 (.slice A1 l1.length c1)) ∧ Below w.heap.size w W)
    (fun _ _ _ => False)
    (OwnFrom.and (OwnFrom.and (OwnFrom.and (Own.from (fun s A B row hs hg hr => hs.kept hg hr) _) (Own.from (boxed_own _ _ _) _)) (Own.from (boxed_own _ _ _) _)) (ownFrom_below (Nat.le_refl _) (by omega)))
    (fun _ _ _ _ _ hs _ _ => hs)
    ⟨⟨⟨hG1, bL2⟩, bS0⟩, hB0⟩
    (fun x a' W => ∃ Bx, w1.heap.size + 1 + 1 < Bx ∧ W.heap[Bx]? = some (.cells #[.int .i64 x.2.f0, .int .i64 x.2.f1] 56 (0, 0)) ∧ a' = sackAct w w1 a0 A1 l1.length c1 a2 a3 Bx x)
    (fun x a' => Own.from (fun s A B row hs hg hr => by
      obtain ⟨Bx, h1, h2, h3⟩ := hs
      refine ⟨Bx, h1, (hg.block Bx (blk_lt h2) (fun e => ?_)).trans h2, h3⟩
      obtain ⟨ob, ho, hc⟩ := hr Bx e.symm
      rw [h2] at ho
      cases ho
      cases hc) _)
    ?assign ?body ?done ?stop
  case assign =>
    rintro l pre x W K hi hK
    unfold enc56
    gi_wp2
    exact hK _ _ ((KeepsOthers.alloc _ _).from _) ⟨(Below.refl _ W).alloc hi.2.size _, Below.heap_alloc W _ _ hi.1.2.lt⟩ ⟨⟨⟨hi.1.1.1.alloc _, hi.1.1.2.alloc _⟩, hi.1.2.alloc _⟩, hi.2.alloc hi.2.size _⟩ ⟨W.heap.size, hi.1.2.lt, World.alloc_heap_new W _, rfl⟩
  case body =>
    rintro l pre x a' W hl hrr ⟨⟨⟨hG, bL⟩, bS⟩, hB⟩ ⟨Bx, hBx, hX, rfl⟩ hlt
    unfold sackAct
    clear hsz
    obtain ⟨S, T, vo, vr, hbg⟩ := hG
    have HBG := Aside0.mk hbg
    have cL := bL.cell
    have x0 : W.cell? ⟨Bx, 0, none⟩ = some (.int .i64 x.2.f0) := by rw [blk_cell hX]; rfl
    have x1 : W.cell? ⟨Bx, 1, none⟩ = some (.int .i64 x.2.f1) := by rw [blk_cell hX]; rfl
    have co := hbg.bo.cell
    have cr := hbg.br.cell
    have fo := hbg.bo.frozen
    have fr := hbg.br.frozen
    clear hbg
    have HBL := Aside0.mk bL
    have HBS := Aside0.mk bS
    have HB := Aside0.mk hB
    have hsz1 := hB.size
    have HLEN : Aside0 (((outs a2 pre).length + 1) * 16 ≤ 140737488355328 ∧ ((rests a2 pre).length + 1) * 16 ≤ 140737488355328) := ⟨by have := outs_len a2 pre; omega⟩
    clear bL bS hB
    by_cases c0 : x.2.f0 ≤ a2
    · have d0 : decide (x.2.f0 ≤ a2) = true := decide_eq_true c0
      by_cases c1' : a2 < x.2.f1
      · have d1 : decide (a2 < x.2.f1) = true := decide_eq_true c1'
        gi_wp2_with (first
          | (gi_at_builtin; refine R_append_in k56 (w0 := W) (W := W) w.heap.size rfl (.tmp 38) (.tmp 40) 32 56 (.agg #[.int .i64 0, .int .i64 0]) 16 rfl Try.underlying32 info56 rfl (by decide) (by decide) vo (outs a2 pre) x.2 [.int .i64 x.2.f0, .int .i64 x.2.f1] (fun k => S k ∨ W.heap.size ≤ k) (fun _ => False) rfl rfl (k56_mkM _ _ _ x.2) (fun _ hk => hk.elim) (fun _ hk => .inr hk) (Kd.R_mono HBG.out.ro (fun _ h => .inl h)) (Below.refl _ _) HB.out.size HLEN.out.1 ?_; intro v1 w3 ho hb hg hat; have HST := Aside0.mk (HBG.out.step0 HBL.out (by omega) HBS.out (by omega) HB.out hg hb ho W0.heap.size); have hbx := (HBG.out.grow0 hg ho).1; obtain ⟨A9, c9, hv9⟩ := Kd.R_slice ho; subst hv9; have cx := hbx.cell; have fx := hbx.frozen; clear ho hb hg hat hbx))
        have hio := outs_t a2 pre x (by unfold inR; rw [d0, d1]; rfl)
        have hfin := HST.out
        rw [show (outs a2 pre ++ [x.2]).length = (outs a2 pre).length + 1 from List.length_append, ← hio.1, ← hio.2] at hfin
        exact hfin
      · have d1 : decide (a2 < x.2.f1) = false := decide_eq_false c1'
        gi_wp2_with (first
          | (gi_at_builtin; refine R_append_in k56 (w0 := W) (W := W) w.heap.size rfl (.tmp 42) (.tmp 44) 32 56 (.agg #[.int .i64 0, .int .i64 0]) 16 rfl Try.underlying32 info56 rfl (by decide) (by decide) vr (rests a2 pre) x.2 [.int .i64 x.2.f0, .int .i64 x.2.f1] (fun k => T k ∨ W.heap.size ≤ k) (fun _ => False) rfl rfl (k56_mkM _ _ _ x.2) (fun _ hk => hk.elim) (fun _ hk => .inr hk) (Kd.R_mono HBG.out.rr (fun _ h => .inl h)) (Below.refl _ _) HB.out.size HLEN.out.2 ?_; intro v1 w3 ho hb hg hat; have HST := Aside0.mk (HBG.out.step1 HBL.out (by omega) HBS.out (by omega) HB.out hg hb ho W0.heap.size); have hbx := (HBG.out.grow1 hg ho).1; obtain ⟨A9, c9, hv9⟩ := Kd.R_slice ho; subst hv9; have cx := hbx.cell; have fx := hbx.frozen; clear ho hb hg hat hbx))
        have hio := outs_f a2 pre x (by unfold inR; rw [d0, d1]; rfl)
        have hfin := HST.out
        rw [show (rests a2 pre ++ [x.2]).length = (rests a2 pre).length + 1 from List.length_append, ← hio.2, ← hio.1] at hfin
        exact hfin
    · have d0 : decide (x.2.f0 ≤ a2) = false := decide_eq_false c0
      gi_wp2_with (first
        | (gi_at_builtin; refine R_append_in k56 (w0 := W) (W := W) w.heap.size rfl (.tmp 42) (.tmp 44) 32 56 (.agg #[.int .i64 0, .int .i64 0]) 16 rfl Try.underlying32 info56 rfl (by decide) (by decide) vr (rests a2 pre) x.2 [.int .i64 x.2.f0, .int .i64 x.2.f1] (fun k => T k ∨ W.heap.size ≤ k) (fun _ => False) rfl rfl (k56_mkM _ _ _ x.2) (fun _ hk => hk.elim) (fun _ hk => .inr hk) (Kd.R_mono HBG.out.rr (fun _ h => .inl h)) (Below.refl _ _) HB.out.size HLEN.out.2 ?_; intro v1 w3 ho hb hg hat; have HST := Aside0.mk (HBG.out.step1 HBL.out (by omega) HBS.out (by omega) HB.out hg hb ho W0.heap.size); have hbx := (HBG.out.grow1 hg ho).1; obtain ⟨A9, c9, hv9⟩ := Kd.R_slice ho; subst hv9; have cx := hbx.cell; have fx := hbx.frozen; clear ho hb hg hat hbx))
      have hio := outs_f a2 pre x (by unfold inR; rw [d0]; rfl)
      have hfin := HST.out
      rw [show (rests a2 pre ++ [x.2]).length = (rests a2 pre).length + 1 from List.length_append, ← hio.2, ← hio.1] at hfin
      exact hfin
  case done =>
    rintro D ys0 W hD rfl ⟨⟨⟨hG, bL⟩, bS⟩, hB⟩ hK
    have hln := outs_len a2 (bk l1 l1.length)
    rw [bk_length] at hln
    obtain ⟨xs, hxs⟩ : ∃ xs, outs a2 (bk l1 l1.length) = xs := ⟨_, rfl⟩
    obtain ⟨ys, hys⟩ : ∃ ys, rests a2 (bk l1 l1.length) = ys := ⟨_, rfl⟩
    have HXY := Aside0.mk (show sackL a2 l1 a3 = (xs ++ ys).take a3.toNat by rw [← hxs, ← hys]; unfold outs rests sackL; rw [bk_all])
    rw [hxs, hys] at hln
    rw [hxs, hys] at hG
    clear hxs hys
    obtain ⟨S, T, vo, vr, hbg⟩ := hG
    have HBG := Aside0.mk hbg
    have co := hbg.bo.cell
    have cr := hbg.br.cell
    have fo := hbg.bo.frozen
    have fr := hbg.br.frozen
    obtain ⟨Ao, c_o, hvo⟩ := Kd.R_slice hbg.ro
    obtain ⟨Ar, c_r, hvr, hlr, hCr⟩ := Kd.R_reads hbg.rr
    subst hvo
    subst hvr
    clear hbg
    have HKD := Aside0.mk hK
    have HB := Aside0.mk hB
    have hsz1 := hB.size
    have HCR := Aside0.mk hCr
    have HL : Aside0 ((xs.length + ys.length) * 16 ≤ 140737488355328) := ⟨by omega⟩
    have HB0 := Aside0.mk (show w.heap.size ≤ D by have := hB0.size; omega)
    clear bL bS hB hK hsz hlr hCr bL2 hG1 bS0 hB0
    gi_wp2_with (first
      | (gi_at_builtin; refine R_append_rows_in k56 (Rr := k56.K W) (w0 := W) (W := W) w.heap.size rfl (.tmp 46) (.tmp 47) 32 56 (.agg #[.int .i64 0, .int .i64 0]) 16 rfl Try.underlying32 info56 rfl (by decide) (by decide) (.slice Ao xs.length c_o) xs ys Ar ys.length c_r (fun k => S k ∨ W.heap.size ≤ k) (fun _ => False) rfl rfl (Kd.R_mono HBG.out.ro (fun _ h => .inl h)) HCR.out (fun x cs h => by rw [k56_open h]; exact k56_mkM _ _ _ x) (fun _ hk => hk.elim) (fun _ hk => .inr hk) (Below.refl _ _) HB.out.size HL.out ?_; intro v1 w3 ho hb hg hat; have HGR := Aside0.mk (HBG.out.grow0 hg ho); have HO := Aside0.mk ho; have HB3 := Aside0.mk hb; have HG3 := Aside0.mk hg; obtain ⟨A9, c9, hv9, hl9, _⟩ := Kd.R_reads ho; subst hv9; rw [List.length_append] at hl9; have cx := HGR.out.1.cell; have fx := HGR.out.1.frozen; clear ho hb hg hat))
    all_goals
      have hO1 := Kd.R_set HO.out HGR.out.1 (by decide) 0 (.slice A9 (xs.length + ys.length) c9)
      have ko : KeepsOthers W w3 := KeepsOthers.of_grownBy HG3.out (fun j o ej hj => by
        obtain ⟨cells, hc⟩ := Kd.R_typed HBG.out.ro j ej
        rw [hj] at hc
        cases hc
        rfl)
      have hK4 := (ko.trans (KeepsOthers.setCell _ ⟨w1.heap.size, 0, none⟩ (.slice A9 (xs.length + ys.length) c9))).same D _ HKD.out rfl
      have hB4 := (HB.out.trans HB3.out).setCell (p := ⟨w1.heap.size, 0, none⟩) hle (.slice A9 (xs.length + ys.length) c9)
      obtain ⟨w4, hw4⟩ : ∃ y, w3.setCell ⟨w1.heap.size, 0, none⟩ (.slice A9 (xs.length + ys.length) c9) = y := ⟨_, rfl⟩
      rw [hw4] at hO1 hK4 hB4 ⊢
      have hO2 := Kd.R_mono (Kd.R_grown (Kd.R_bound hO1) (grownBy_putObj' w4 D (.deferred none)) (fun k g e => by
        obtain ⟨q, _, cells, hc⟩ := g.2.2.2
        cases e
        rw [hK4] at hc
        cases hc)) (ok' := fun _ => True) (fun _ _ => trivial)
      have hB5 := hB4.trans (belowK_b (w := w) (Nat.le_refl _) w4 D (.deferred (some [])) (.deferred none) (by have := HB0.out; omega) hK4 rfl rfl)
      rw [HXY.out]
      refine ⟨by simp, .inl ⟨_, _, rfl, run_takeDeferred hK4, ?_⟩⟩
      first
        | exact ⟨_, results_tmp2 rfl _ _ _, _, rfl, Kd.R_take (m := a3.toNat) hO2 (by rw [List.length_append]; omega), hB5⟩
        | exact ⟨_, results_tmp2 rfl _ _ _, _, rfl, by rw [List.take_of_length_le (by rw [List.length_append]; omega)]; rw [List.length_append] at hO2; exact hO2, hB5⟩
  case stop =>
    rintro D c pre W _ _ h _
    exact h.elim
/-- what hole.Sacks comes to (told for what may be; else nothing is said) -/
def hole_Sacks.f (a0 : Int) (l1 : List S56) (a2 a3 : Int) : Option (List S56 × Int) := if l1.length ≤ 1000 ∧ 0 ≤ a3 ∧ a3 ≤ 16 ∧ hole_May.f 2000 a0 l1 = some true then some (sackL a2 l1 a3, 0) else none
theorem hole_Sacks.calls (a0 : Int) (A1 : Option Addr) (c1 : Nat) (l1 : List S56) (a2 a3 : Int) (r1 : List S56) (r2 : Int) (w : World) (hr1 : Kd.C k56 w A1 l1.length l1) (hc1 : l1.length ≤ c1) (h : hole_Sacks.f a0 l1 a2 a3 = some (r1, r2)) :
    Calls Try.prog 40 #[.int .i64 a0, .slice A1 l1.length c1, .int .i64 a2, .int .i64 a3] w fun e w' => ∃ v0_ : Value, e = .returned (.tuple #[v0_, .int .i64 r2]) ∧ Kd.R k56 56 w' w.heap.size (fun _ => True) v0_ r1 ∧ Below w.heap.size w w' := by
  unfold hole_Sacks.f at h
  by_cases c : l1.length ≤ 1000 ∧ 0 ≤ a3 ∧ a3 ≤ 16 ∧ hole_May.f 2000 a0 l1 = some true
  · rw [if_pos c] at h
    injection h with h
    injection h with h1 h2
    subst h1 h2
    exact sacks_calls 2000 a0 A1 c1 l1 a2 a3 w hr1 hc1 c.1 c.2.1 c.2.2.1 c.2.2.2
  · rw [if_neg c] at h
    exact absurd h (by simp)
end

-- NOT PRINTED: function 33 (recv_Hearer_Do)

end Go.Proofs.Ytjbilachfipicaa.PRecvTwice
