/- Printed by a program of this session (wip/myprint.py): Go functions of the law as Lean functions, and the proof that the code comes to these answers. -/
import Derived.Test.YtlgehakaedokeaaPFetchStillx0
import Derived.Test.YtlgehakaedokeaaPFetchStillx2
namespace Go.Proofs.Ytlgehakaedokeaa.PFetchStill
open Go.RowKit Go.Proofs.YtlgehakaedokeaaW.PrintWords Go.Proofs.YtlgehakaedokeaaW.PrintLast Go.Proofs.YtlgehakaedokeaaW.PrintMore
attribute [local go_sem] max2_int min2_int max_two min_two max_three min_three max_four min_four   -- for this text's walks alone
attribute [local go_sem] pn_setCell_drewN
set_option linter.unusedVariables false
set_option linter.unusedSimpArgs false

/-! ### fetch_Play: function 29, by hand -/
theorem goesW_ {P : Program} {oi : Oper} {N : Option Tmp} {a : Act} {w : World} {K : Act → World → Prop} {Q : Exit → Act → World → Prop} {f : FuncId} {fn : Func} {x : Operand} {ars : Array Operand} {caps : Array Value} {ts : Array TypeId} (hf : P.funcs[f]? = some fn) (hname : (fn.name == "runtime.NumGoroutine") = false) (hb : fn.body.isSome = true) (args : Array Value) {ops : Array Oper}
    (hw : Region.wanted oi (yielded ops a.tmps) = true) (hN : oi.dst = N) (hop : oi.op = .call { callee := .value x, args := ars, argTypes := ts }) (hx : a.eval x = .func (.func f) #[] caps) (hargs : ars.map a.eval ++ caps = args)
    (h : Calls P f args w fun e w' => ∃ v, e = .returned v ∧ K (a.put N v) w') : if Region.wanted oi (yielded ops a.tmps) = true then Oper.wp P oi a w K Q else K (a.put N undef) w := by
  refine call_ f args hw hN ?_ h
  have he := enters_ hf hname hb args w
  unfold execOp
  simp [hop, resolve, Deferred.ofValue, invoke, hx, ← hargs] at he ⊢
  simp [he]
set_option maxHeartbeats 4000000 in
set_option maxRecDepth 100000 in
theorem open_calls (fb pb : Nat) (a c front en : Int) (vO vD : Value) (w : World) (hF : w.heap[fb]? = some (.cells #[vO, .int .i64 front, .int .i64 en, vD] 85 (0, 0))) (hP : w.heap[pb]? = some (.cells #[.pointer (some ⟨fb, 0, none⟩)] 83 (0, 0))) :
    Calls Try.prog 44 #[.agg #[.int .i64 a, .int .i64 c], .pointer (some ⟨pb, 0, none⟩)] w fun e w' => e = .returned (.bool (decide (a < en))) ∧ Below w.heap.size w w' := by
  have hu82 := Try.underlying82
  have hu85 := Try.underlying85
  have HN := Aside0.mk (blk_new w (Obj.cells #[.int .i64 a, .int .i64 c] 82))
  have HF := Aside0.mk (blk_alloc hF (Obj.cells #[.int .i64 a, .int .i64 c] 82))
  have HP := Aside0.mk (blk_alloc hP (Obj.cells #[.int .i64 a, .int .i64 c] 82))
  have HB := Aside0.mk (below_alloc (Below.refl w.heap.size w) (Obj.cells #[.int .i64 a, .int .i64 c] 82))
  clear hF hP
  go_enter Try.func44, Try.ntmps44
  go_upto_region 1 with (fail)
  obtain ⟨W1, hW1⟩ : ∃ y, w.alloc (Obj.cells #[.int .i64 a, .int .i64 c] 82) = y := ⟨_, rfl⟩
  rw [hW1] at HN HF HP HB ⊢
  clear hW1
  have t0 : W1.cell? ⟨w.heap.size, 0, none⟩ = some (.int .i64 a) := (blk_cell HN.out 0).trans rfl
  have t1 : W1.cell? ⟨pb, 0, none⟩ = some (.pointer (some ⟨fb, 0, none⟩)) := (blk_cell HP.out 0).trans rfl
  have t2 : W1.cell? ⟨fb, 2, none⟩ = some (.int .i64 en) := (blk_cell HF.out 2).trans rfl
  go_quiet (fail)
  go_wp2
  go_ret
  exact ⟨rfl, pw_below_drewN HB.out _⟩
set_option maxHeartbeats 4000000 in
set_option maxRecDepth 100000 in
theorem index_calls (fb pb : Nat) (A : Option Addr) (cl : Nat) (l : List S82) (front en : Int) (vO vD : Value) (w : World) (hC : Kd.C k82 w A l.length l) (hl : l.length ≤ 100000) (hF : w.heap[fb]? = some (.cells #[vO, .int .i64 front, .int .i64 en, vD] 85 (0, 0))) (hP : w.heap[pb]? = some (.cells #[.pointer (some ⟨fb, 0, none⟩)] 83 (0, 0))) :
    Calls Try.prog 52 #[.slice A l.length cl, .func (.func 44) #[] #[.pointer (some ⟨pb, 0, none⟩)]] w fun e w' => ∃ r : Int, e = .returned (.int .i64 r) ∧ (decide (0 ≤ r) = l.any fun x => decide (x.f0 < en)) ∧ Below w.heap.size w w' := by
  have hu82 := Try.underlying82
  have HC := Aside0.mk hC
  have HF := Aside0.mk hF
  have HP := Aside0.mk hP
  clear hC hF hP
  go_enter Try.func52, Try.ntmps52
  go_wp2
  go_loopw [8] (fun v8 wr => ∃ a : Nat, a ≤ l.length ∧ v8 = .int .i64 (a : Int) ∧ Aside0 (((l.take a).any fun x => decide (x.f0 < en)) = false) ∧ Aside0 (Below w.heap.size w wr)) (fun v8 _ => l.length - (intOf v8).toNat)
  case atStart => exact ⟨0, Nat.zero_le _, rfl, ⟨rfl⟩, ⟨Below.refl _ _⟩⟩
  case round =>
    obtain ⟨a, ha, rfl, HN, HB⟩ := hrel
    obtain ⟨wo, hwo⟩ : ∃ wo : World, wo = wr := ⟨_, rfl⟩
    subst hwo
    by_cases c0 : a < l.length
    · have c0b : decide (a < l.length) = true := decide_eq_true c0
      have c0i : decide ((a : Int) < (l.length : Int)) = true := decide_eq_true (by omega)
      obtain ⟨ad, rfl, p0, p1⟩ := at_T82 (Kd.C_below HC.out HB.out) (a : Int) (by omega) (by omega)
      rw [Int.toNat_natCast] at p0 p1
      obtain ⟨z, hz⟩ : ∃ z, rd_T82 l (a : Int) = z := ⟨_, rfl⟩
      have HT := Aside0.mk (show l.take (a + 1) = l.take a ++ [z] by
        rw [← hz, rd_T82, Int.toNat_natCast, List.getD_eq_getElem?_getD, List.getElem?_eq_getElem c0, Option.getD_some, List.take_append_getElem c0])
      rw [hz] at p0 p1
      clear hz
      go_wp2_with (fail)
      refine (open_calls fb pb z.f0 z.f1 front en vO vD wo (blk_below HF.out HB.out) (blk_below HP.out HB.out)).mono ?_
      rintro e w5 ⟨rfl, hb5⟩
      have HB5 := Aside0.mk (below_step HB.out hb5)
      clear hb5
      by_cases cz : z.f0 < en
      · have kz : decide (z.f0 < en) = true := decide_eq_true cz
        have hany : (l.any fun x => decide (x.f0 < en)) = true := by
          rw [List.any_eq_true]
          exact ⟨z, List.mem_of_mem_take (HT.out ▸ List.mem_append_right _ (List.mem_singleton.2 rfl)), kz⟩
        have HA := Aside0.mk hany
        clear cz hany
        rw [kz]
        dsimp only
        go_wp2
        go_ret
        exact ⟨(a : Int), rfl, by rw [HA.out]; exact decide_eq_true (by omega), HB5.out⟩
      · have kz : decide (z.f0 < en) = false := decide_eq_false cz
        have HN5 : Aside0 (((l.take (a + 1)).any fun x => decide (x.f0 < en)) = false) := ⟨by rw [HT.out, List.any_append, HN.out, List.any_cons, kz]; rfl⟩
        clear cz
        rw [kz]
        dsimp only
        go_wp2
        exact ⟨⟨a + 1, by omega, by go_num, HN5, ⟨HB5.out⟩⟩, by simp [intOf]; omega⟩
    · have c0b : decide (a < l.length) = false := decide_eq_false c0
      have c0i : decide ((a : Int) < (l.length : Int)) = false := decide_eq_false (by omega)
      go_wp2
      go_ret
      refine ⟨-1, rfl, ?_, HB.out⟩
      have h := HN.out
      rw [List.take_of_length_le (by omega)] at h
      rw [h]
      rfl
set_option maxHeartbeats 4000000 in
set_option maxRecDepth 100000 in
theorem contains_calls (fb pb : Nat) (A : Option Addr) (cl : Nat) (l : List S82) (front en : Int) (vO vD : Value) (w : World) (hC : Kd.C k82 w A l.length l) (hl : l.length ≤ 100000) (hF : w.heap[fb]? = some (.cells #[vO, .int .i64 front, .int .i64 en, vD] 85 (0, 0))) (hP : w.heap[pb]? = some (.cells #[.pointer (some ⟨fb, 0, none⟩)] 83 (0, 0))) :
    Calls Try.prog 45 #[.slice A l.length cl, .func (.func 44) #[] #[.pointer (some ⟨pb, 0, none⟩)]] w fun e w' => e = .returned (.bool (l.any fun x => decide (x.f0 < en))) ∧ Below w.heap.size w w' := by
  have HI := Aside0.mk (index_calls fb pb A cl l front en vO vD w hC hl hF hP)
  clear hC hF hP
  go_enter Try.func45, Try.ntmps45
  go_wp2_with (first
    | ((with_reducible refine gate_callee (f := 52) rfl ?_); refine goesL_ _ rfl rfl Try.func52 (by kernel_rfl) rfl #[.slice A l.length cl, .func (.func 44) #[] #[.pointer (some ⟨pb, 0, none⟩)]] rfl (by (try simp only [List.map_toArray, List.map_cons, List.map_nil]); first | done | rfl) ?_; refine HI.out.mono ?_; rintro e w5 ⟨r, rfl, hr, hb5⟩; refine ⟨_, rfl, ?_⟩; have HR := Aside0.mk hr; have HB5 := Aside0.mk hb5; clear hb5 hr))
  go_ret
  exact ⟨by first | (rw [← HR.out]; rfl) | (rw [← HR.out]), HB5.out⟩
/-- the world goes on; of what was, only blocks of M change -/
structure Gs (M : Nat → Prop) (w w' : World) : Prop where
  os : w'.os = w.os
  tape : w'.tape = w.tape
  output : w'.output = w.output
  size : w.heap.size ≤ w'.heap.size
  block : ∀ k, k < w.heap.size → ¬ M k → w'.heap[k]? = w.heap[k]?
theorem Gs.refl (M : Nat → Prop) (w : World) : Gs M w w := ⟨rfl, rfl, rfl, Nat.le_refl _, fun _ _ _ => rfl⟩
theorem Gs.trans {M : Nat → Prop} {a b c : World} (h : Gs M a b) (k : Gs M b c) : Gs M a c := ⟨k.os.trans h.os, k.tape.trans h.tape, k.output.trans h.output, Nat.le_trans h.size k.size, fun i hi hm => (k.block i (Nat.lt_of_lt_of_le hi h.size) hm).trans (h.block i hi hm)⟩
theorem Gs.of_below {M : Nat → Prop} {w w' : World} (h : Below w.heap.size w w') : Gs M w w' := ⟨h.os, h.tape, h.output, h.size, fun i hi _ => h.block i hi⟩
theorem Gs.of_grown {M : Nat → Prop} {w w' : World} {r : Option Nat} (h : w.grownBy w' r) (hM : ∀ k, r = some k → M k) : Gs M w w' := ⟨h.os, h.tape, h.output, h.size, fun i hi hm => h.block i hi (fun e => hm (hM i e.symm))⟩
theorem Gs.set {M : Nat → Prop} {w w' : World} (h : Gs M w w') {g : Nat} (hg : M g ∨ w.heap.size ≤ g) (j : Nat) (u : Value) : Gs M w (w'.setCell ⟨g, j, none⟩ u) := by
  have hb := (Below.refl g w').setCell (p := ⟨g, j, none⟩) (Nat.le_refl _) u
  refine ⟨hb.os.trans h.os, hb.tape.trans h.tape, hb.output.trans h.output, Nat.le_trans h.size hb.size, fun k hk hm => ?_⟩
  rw [← h.block k hk hm]
  refine Below.heap_setCell w' ⟨g, j, none⟩ u k ?_
  rintro rfl
  rcases hg with h1 | h1
  · exact hm h1
  · exact absurd hk (Nat.not_lt.2 h1)
theorem Gs.weak {M N : Nat → Prop} {w w' : World} (h : Gs M w w') (hMN : ∀ k, k < w.heap.size → M k → N k) : Gs N w w' := ⟨h.os, h.tape, h.output, h.size, fun k hk hn => h.block k hk (fun hm => hn (hMN k hk hm))⟩
theorem Gs.below {M : Nat → Prop} {w w' : World} {base : Nat} (h : Gs M w w') (hb : base ≤ w.heap.size) (hM : ∀ k, M k → base ≤ k) : Below base w w' := ⟨h.os, h.tape, h.output, h.size, fun k hk => h.block k (by omega) (fun hm => by have := hM k hm; omega)⟩
theorem R5_re {w : World} {base : Nat} {ok ok' : Nat → Prop} {v : Value} {xs : List Int} (h : (Kd.int .u8).R 5 w base ok v xs) (hok : ∀ k, v.ownBlock = some k → ok' k) : (Kd.int .u8).R 5 w base ok' v xs := ⟨hok, h.2⟩
theorem R82_re {w : World} {base : Nat} {ok ok' : Nat → Prop} {v : Value} {xs : List S82} (h : k82.R 82 w base ok v xs) (hok : ∀ k, v.ownBlock = some k → ok' k) : k82.R 82 w base ok' v xs := ⟨hok, h.2⟩
theorem R5_keep {w w' : World} {base : Nat} {v : Value} {xs : List Int} (h : (Kd.int .u8).R 5 w base (fun _ => True) v xs) (hk : ∀ k, v.ownBlock = some k → w'.heap[k]? = w.heap[k]?) : (Kd.int .u8).R 5 w' base (fun _ => True) v xs :=
  R5_re (Kd.R_move (R5_re h (ok' := fun k => v.ownBlock = some k) (fun _ e => e)) hk) (fun _ _ => trivial)
theorem R82_keep {w w' : World} {base : Nat} {v : Value} {xs : List S82} (h : k82.R 82 w base (fun _ => True) v xs) (hk : ∀ k, v.ownBlock = some k → w'.heap[k]? = w.heap[k]?) : k82.R 82 w' base (fun _ => True) v xs :=
  R82_re (Kd.R_move (R82_re h (ok' := fun k => v.ownBlock = some k) (fun _ e => e)) hk) (fun _ _ => trivial)
/-- where a row's block came from -/
def Nx (w : World) (v v' : Value) : Prop := v'.ownBlock = v.ownBlock ∨ v'.ownBlock = none ∨ ∃ b, v'.ownBlock = some b ∧ w.heap.size ≤ b
theorem Nx.refl (w : World) (v : Value) : Nx w v v := .inl rfl
theorem Nx.trans {w w' : World} {a b c : Value} (h : Nx w a b) (hs : w.heap.size ≤ w'.heap.size) (k : Nx w' b c) : Nx w a c := by
  rcases k with k | k | ⟨q, k, hq⟩
  · rcases h with h | h | ⟨q, h, hq⟩
    · exact .inl (k.trans h)
    · exact .inr (.inl (k.trans h))
    · exact .inr (.inr ⟨q, k.trans h, hq⟩)
  · exact .inr (.inl k)
  · exact .inr (.inr ⟨q, k, Nat.le_trans hs hq⟩)
/-- the fetcher at fb, and the Next at nb, and their rows -/
structure FN (w : World) (base fb nb : Nat) (vO vD vW vN : Value) (out : List S82) (front en : Int) (data : List Int) (code : Int) (wants : List S82) (dn : Bool) (nd : List Int) : Prop where
  hF : w.heap[fb]? = some (.cells #[vO, .int .i64 front, .int .i64 en, vD] 85 (0, 0))
  hN : w.heap[nb]? = some (.cells #[.int .i64 code, vW, .bool dn, vN] 71 (0, 0))
  rO : k82.R 82 w base (fun _ => True) vO out
  rW : k82.R 82 w base (fun _ => True) vW wants
  rD : (Kd.int .u8).R 5 w base (fun _ => True) vD data
  rN : (Kd.int .u8).R 5 w base (fun _ => True) vN nd
  ow : ∀ k, vO.ownBlock = some k → vW.ownBlock = some k → False
  dn' : ∀ k, vD.ownBlock = some k → vN.ownBlock = some k → False
  bf : base ≤ fb
  bn : base ≤ nb
section
variable {w w1 : World} {base fb nb : Nat} {vO vD vW vN : Value} {out wants : List S82} {front en code : Int} {data nd : List Int} {dn : Bool}
theorem FN.below (h : FN w base fb nb vO vD vW vN out front en data code wants dn nd) (hb : Below w.heap.size w w1) : FN w1 base fb nb vO vD vW vN out front en data code wants dn nd :=
  ⟨blk_below h.hF hb, blk_below h.hN hb, Kd.R_below h.rO hb, Kd.R_below h.rW hb, Kd.R_below h.rD hb, Kd.R_below h.rN hb, h.ow, h.dn', h.bf, h.bn⟩
theorem ne_typed_ {w : World} {k g t t' : Nat} (h : ∃ cells, w.heap[k]? = some (.cells cells t (0, 0))) (h' : ∃ cells, w.heap[g]? = some (.cells cells t' (0, 0))) (hne : t ≠ t') : k ≠ g := by
  rintro rfl
  obtain ⟨c, h⟩ := h
  obtain ⟨c', h'⟩ := h'
  rw [h] at h'
  injection h' with h'
  injection h' with _ h'
  exact hne h'
theorem set_keep_ (w : World) (g j : Nat) (u : Value) (k : Nat) (h : k ≠ g) : (w.setCell ⟨g, j, none⟩ u).heap[k]? = w.heap[k]? := Below.heap_setCell w ⟨g, j, none⟩ u k h
/-- what was asked for is noted by the fetcher -/
theorem FN.appO (h : FN w base fb nb vO vD vW vN out front en data code wants dn nd) {v1 : Value} {out1 : List S82} (r1 : k82.R 82 w1 base (fun _ => True) v1 out1) (hg : w.grownBy w1 vO.ownBlock) (hat : v1.ownBlock = vO.ownBlock ∨ ∃ b, v1.ownBlock = some b ∧ w.heap.size ≤ b) :
    FN (w1.setCell ⟨fb, 0, none⟩ v1) base fb nb v1 vD vW vN out1 front en data code wants dn nd := by
  have tO := Kd.R_typed h.rO
  have nF : some fb ≠ vO.ownBlock := fun e => ne_typed_ (tO fb e.symm) ⟨_, h.hF⟩ (by decide) rfl
  have nN : some nb ≠ vO.ownBlock := fun e => ne_typed_ (tO nb e.symm) ⟨_, h.hN⟩ (by decide) rfl
  have hF1 := (hg.block fb (blk_lt h.hF) nF).trans h.hF
  have hN1 := (hg.block nb (blk_lt h.hN) nN).trans h.hN
  have fn : nb ≠ fb := blk_ne h.hN h.hF (by decide)
  have kW : ∀ k, vW.ownBlock = some k → w1.heap[k]? = w.heap[k]? := fun k e => hg.block k (Kd.R_lt h.rW k e) (fun e' => h.ow k e'.symm e)
  have kD : ∀ k, vD.ownBlock = some k → w1.heap[k]? = w.heap[k]? := fun k e => hg.block k (Kd.R_lt h.rD k e) (fun e' => ne_typed_ (tO k e'.symm) (Kd.R_typed h.rD k e) (by decide) rfl)
  have kN : ∀ k, vN.ownBlock = some k → w1.heap[k]? = w.heap[k]? := fun k e => hg.block k (Kd.R_lt h.rN k e) (fun e' => ne_typed_ (tO k e'.symm) (Kd.R_typed h.rN k e) (by decide) rfl)
  refine ⟨blk_put hF1 0 v1 rfl, (set_keep_ _ _ _ _ nb fn).trans hN1, Kd.R_set r1 hF1 (by decide) 0 v1, Kd.R_set (R82_keep h.rW kW) hF1 (by decide) 0 v1, Kd.R_set (R5_keep h.rD kD) hF1 (by decide) 0 v1, Kd.R_set (R5_keep h.rN kN) hF1 (by decide) 0 v1, ?_, h.dn', h.bf, h.bn⟩
  intro k e e'
  rcases hat with hat | ⟨b, hb, hle⟩
  · exact h.ow k (hat ▸ e) e'
  · rw [hb] at e
    injection e with e
    have := Kd.R_lt h.rW k e'
    omega
/-- what was asked for is told -/
theorem FN.appW (h : FN w base fb nb vO vD vW vN out front en data code wants dn nd) {v1 : Value} {wants1 : List S82} (r1 : k82.R 82 w1 base (fun _ => True) v1 wants1) (hg : w.grownBy w1 vW.ownBlock) (hat : v1.ownBlock = vW.ownBlock ∨ ∃ b, v1.ownBlock = some b ∧ w.heap.size ≤ b) :
    FN (w1.setCell ⟨nb, 1, none⟩ v1) base fb nb vO vD v1 vN out front en data code wants1 dn nd := by
  have tO := Kd.R_typed h.rW
  have nF : some fb ≠ vW.ownBlock := fun e => ne_typed_ (tO fb e.symm) ⟨_, h.hF⟩ (by decide) rfl
  have nN : some nb ≠ vW.ownBlock := fun e => ne_typed_ (tO nb e.symm) ⟨_, h.hN⟩ (by decide) rfl
  have hF1 := (hg.block fb (blk_lt h.hF) nF).trans h.hF
  have hN1 := (hg.block nb (blk_lt h.hN) nN).trans h.hN
  have fn : fb ≠ nb := blk_ne h.hF h.hN (by decide)
  have kO : ∀ k, vO.ownBlock = some k → w1.heap[k]? = w.heap[k]? := fun k e => hg.block k (Kd.R_lt h.rO k e) (fun e' => h.ow k e e'.symm)
  have kD : ∀ k, vD.ownBlock = some k → w1.heap[k]? = w.heap[k]? := fun k e => hg.block k (Kd.R_lt h.rD k e) (fun e' => ne_typed_ (tO k e'.symm) (Kd.R_typed h.rD k e) (by decide) rfl)
  have kN : ∀ k, vN.ownBlock = some k → w1.heap[k]? = w.heap[k]? := fun k e => hg.block k (Kd.R_lt h.rN k e) (fun e' => ne_typed_ (tO k e'.symm) (Kd.R_typed h.rN k e) (by decide) rfl)
  refine ⟨(set_keep_ _ _ _ _ fb fn).trans hF1, blk_put hN1 1 v1 rfl, Kd.R_set (R82_keep h.rO kO) hN1 (by decide) 1 v1, Kd.R_set r1 hN1 (by decide) 1 v1, Kd.R_set (R5_keep h.rD kD) hN1 (by decide) 1 v1, Kd.R_set (R5_keep h.rN kN) hN1 (by decide) 1 v1, ?_, h.dn', h.bf, h.bn⟩
  intro k e e'
  rcases hat with hat | ⟨b, hb, hle⟩
  · exact h.ow k e (hat ▸ e')
  · rw [hb] at e'
    injection e' with e'
    have := Kd.R_lt h.rO k e
    omega
end
theorem info82_ : (Try.prog.info? 82).map (fun i => (i.zero, i.size, i.bytes)) = some (some (.agg #[.int .i64 0, .int .i64 0]), 2, 16) := by kernel_rfl
/-- what ask may change -/
def MA (fb nb : Nat) (vO vW : Value) : Nat → Prop := fun k => k = fb ∨ k = nb ∨ vO.ownBlock = some k ∨ vW.ownBlock = some k
set_option maxHeartbeats 8000000 in
set_option maxRecDepth 100000 in
theorem ask_calls {w : World} {base fb nb : Nat} {vO vD vW vN : Value} {out wants : List S82} {front en code : Int} {data nd : List Int} {dn : Bool} (h : FN w base fb nb vO vD vW vN out front en data code wants dn nd) (x : S82) (hl1 : out.length ≤ 100000) (hl2 : wants.length ≤ 100000) :
    Calls Try.prog 43 #[.pointer (some ⟨fb, 0, none⟩), .pointer (some ⟨nb, 0, none⟩), .agg #[.int .i64 x.f0, .int .i64 x.f1]] w fun e w' => e = .returned (.tuple #[]) ∧ ∃ vO' vW', FN w' base fb nb vO' vD vW' vN (out ++ [x]) front en data code (wants ++ [x]) dn nd ∧ Nx w vO vO' ∧ Nx w vW vW' ∧ Gs (MA fb nb vO vW) w w' := by
  have hu82 := Try.underlying82
  have hu85 := Try.underlying85
  have hu71 := Try.underlying71
  have hB0 : Below w.heap.size w (w.alloc (Obj.cells #[.int .i64 x.f0, .int .i64 x.f1] 82)) := below_alloc (Below.refl _ _) _
  have H1 := Aside0.mk (h.below hB0)
  have HX := Aside0.mk (blk_new w (Obj.cells #[.int .i64 x.f0, .int .i64 x.f1] 82))
  have HB0 := Aside0.mk hB0
  have H := Aside0.mk h
  clear h hB0
  go_enter Try.func43, Try.ntmps43
  go_upto_region 1 with (fail)
  obtain ⟨W1, hW1⟩ : ∃ y, w.alloc (Obj.cells #[.int .i64 x.f0, .int .i64 x.f1] 82) = y := ⟨_, rfl⟩
  rw [hW1] at H1 HX HB0 ⊢
  clear hW1
  obtain ⟨AO, cO, hvO⟩ := Kd.R_slice H1.out.rO
  obtain ⟨AW, cW, hvW⟩ := Kd.R_slice H1.out.rW
  subst hvO hvW
  have f0 : W1.cell? ⟨fb, 0, none⟩ = some (.slice AO out.length cO) := (blk_cell H1.out.hF 0).trans rfl
  have z0 := blk_frozen H1.out.hF 0
  have x0 : W1.cell? ⟨w.heap.size, 0, none⟩ = some (.int .i64 x.f0) := (blk_cell HX.out 0).trans rfl
  have x1 : W1.cell? ⟨w.heap.size, 1, none⟩ = some (.int .i64 x.f1) := (blk_cell HX.out 1).trans rfl
  have f0c : (W1.alloc (Obj.cells #[.int .i64 x.f0, .int .i64 x.f1] 82)).cell? ⟨fb, 0, none⟩ = some (.slice AO out.length cO) := (blk_cell (blk_alloc H1.out.hF _) 0).trans rfl
  have HL := Aside0.mk (show out.length ≤ 100000 ∧ wants.length ≤ 100000 from ⟨hl1, hl2⟩)
  clear hl1 hl2
  go_cut [] (fun wc => Aside0 (∃ vO', FN wc base fb nb vO' vD (.slice AW wants.length cW) vN (out ++ [x]) front en data code wants dn nd ∧ Nx w (.slice AO out.length cO) vO' ∧ Gs (MA fb nb (.slice AO out.length cO) (.slice AW wants.length cW)) w wc ∧ wc.heap[w.heap.size]? = some (.cells #[.int .i64 x.f0, .int .i64 x.f1] 82 (0, 0))))
  case first =>
    go_region_law (refine Kd.R_append_step k82 (w0 := W1.drew) (W := W1.drew) base rfl (.tmp 10) (.tmp 12) 69 82 (.agg #[.int .i64 0, .int .i64 0]) 16 rfl Try.underlying69 info82_ rfl (by decide) (by decide) (.slice AO out.length cO) out x [.int .i64 x.f0, .int .i64 x.f1] (fun _ => True) (fun _ => False) rfl rfl (k82_mkM _ _ _ x) (fun _ hk => hk.elim) (fun _ _ => trivial) (Kd.R_drew H1.out.rO) (Below.refl _ _) ?aS ?aL ?_; (case aS => have := blk_lt H1.out.hF; have := H1.out.bf; show base ≤ W1.heap.size; omega); (case aL => have := HL.out; omega); intro v17 w17 ho hb hg hat; obtain ⟨A9, c9, e9⟩ := Kd.R_slice ho; subst e9; have HO17 := Aside0.mk ho; have HG17 := Aside0.mk hg; have HA17 := Aside0.mk hat; have hF17 := (hg.block fb (blk_lt H1.out.hF) (fun e => ne_typed_ (Kd.R_typed H1.out.rO fb e.symm) ⟨_, H1.out.hF⟩ (by decide) rfl)).trans H1.out.hF; have HF17 := Aside0.mk hF17; have g0 : w17.cell? ⟨fb, 0, none⟩ = some (.slice AO out.length cO) := (blk_cell hF17 0).trans rfl; have y0 := blk_frozen hF17 0; clear ho hb hg hat hF17)
    all_goals
      have HFN := Aside0.mk (FN.appO (H1.out.below (below_drew (Below.refl _ _))) HO17.out HG17.out HA17.out)
      have hxk : w17.heap[w.heap.size]? = some (.cells #[.int .i64 x.f0, .int .i64 x.f1] 82 (0, 0)) := (HG17.out.block w.heap.size (blk_lt HX.out) (fun e => by have h9 := Kd.R_lt H.out.rO w.heap.size e.symm; omega)).trans HX.out
      have HXK := Aside0.mk ((set_keep_ w17 fb 0 (.slice A9 (out ++ [x]).length c9) w.heap.size (fun e => by have h9 := blk_lt H.out.hF; omega)).trans hxk)
      have HGS : Aside0 (Gs (MA fb nb (.slice AO out.length cO) (.slice AW wants.length cW)) w (w17.setCell ⟨fb, 0, none⟩ (.slice A9 (out ++ [x]).length c9))) := ⟨((Gs.of_below HB0.out).trans ((Gs.of_below (below_drew (Below.refl _ _))).trans (Gs.of_grown HG17.out (fun k e => .inr (.inr (.inl e)))))).set (.inl (.inl rfl)) 0 _⟩
      have HNX : Aside0 (Nx w (.slice AO out.length cO) (.slice A9 (out ++ [x]).length c9)) := ⟨by
        rcases HA17.out with h9 | ⟨b, h9, h8⟩
        · exact .inl h9
        · exact .inr (.inr ⟨b, h9, Nat.le_trans HB0.out.size h8⟩)⟩
      clear HO17 HG17 HA17 HF17 g0 y0 hxk
      go_wp2
      go_meet
      case rel =>
        have hDl : (out ++ [x]).length = out.length + 1 := by simp
        rw [hDl] at HFN HXK HGS HNX
        exact ⟨⟨_, HFN.out, HNX.out, HGS.out, HXK.out⟩⟩
  case rest =>
    obtain ⟨vO', hFN, hNX, hGS, hXK⟩ := hcut.out
    obtain ⟨w2, hw2⟩ : ∃ y : World, y = wc := ⟨_, rfl⟩
    subst hw2
    have HFN := Aside0.mk hFN
    have HNX := Aside0.mk hNX
    have HGS := Aside0.mk hGS
    have HXK := Aside0.mk hXK
    go_upto_region 2 with (fail)
    have n0 : w2.cell? ⟨nb, 1, none⟩ = some (.slice AW wants.length cW) := (blk_cell hFN.hN 1).trans rfl
    have z1 := blk_frozen hFN.hN 1
    have x2 : w2.cell? ⟨w.heap.size, 0, none⟩ = some (.int .i64 x.f0) := (blk_cell hXK 0).trans rfl
    have x3 : w2.cell? ⟨w.heap.size, 1, none⟩ = some (.int .i64 x.f1) := (blk_cell hXK 1).trans rfl
    have n0c : (w2.alloc (Obj.cells #[.int .i64 x.f0, .int .i64 x.f1] 82)).cell? ⟨nb, 1, none⟩ = some (.slice AW wants.length cW) := (blk_cell (blk_alloc hFN.hN _) 1).trans rfl
    clear hcut hFN hNX hGS hXK f0 z0 x0 x1 f0c
    go_region_law (refine Kd.R_append_step k82 (w0 := w2.drew) (W := w2.drew) base rfl (.tmp 20) (.tmp 22) 69 82 (.agg #[.int .i64 0, .int .i64 0]) 16 rfl Try.underlying69 info82_ rfl (by decide) (by decide) (.slice AW wants.length cW) wants x [.int .i64 x.f0, .int .i64 x.f1] (fun _ => True) (fun _ => False) rfl rfl (k82_mkM _ _ _ x) (fun _ hk => hk.elim) (fun _ _ => trivial) (Kd.R_drew HFN.out.rW) (Below.refl _ _) ?aS ?aL ?_; (case aS => have := blk_lt HFN.out.hF; have := HFN.out.bf; show base ≤ w2.heap.size; omega); (case aL => have := HL.out; omega); intro v17 w17 ho hb hg hat; obtain ⟨A9, c9, e9⟩ := Kd.R_slice ho; subst e9; have HO17 := Aside0.mk ho; have HG17 := Aside0.mk hg; have HA17 := Aside0.mk hat; have hN17 := (hg.block nb (blk_lt HFN.out.hN) (fun e => ne_typed_ (Kd.R_typed HFN.out.rW nb e.symm) ⟨_, HFN.out.hN⟩ (by decide) rfl)).trans HFN.out.hN; have g0 : w17.cell? ⟨nb, 1, none⟩ = some (.slice AW wants.length cW) := (blk_cell hN17 1).trans rfl; have y0 := blk_frozen hN17 1; clear ho hb hg hat hN17)
    all_goals
      have HFN2 := Aside0.mk (FN.appW (HFN.out.below (below_drew (Below.refl _ _))) HO17.out HG17.out HA17.out)
      have HGS2 : Aside0 (Gs (MA fb nb (.slice AO out.length cO) (.slice AW wants.length cW)) w (w17.setCell ⟨nb, 1, none⟩ (.slice A9 (wants ++ [x]).length c9))) := ⟨(HGS.out.trans ((Gs.of_below (below_drew (Below.refl _ _))).trans (Gs.of_grown HG17.out (fun k e => .inr (.inr (.inr e)))))).set (.inl (.inr (.inl rfl))) 1 _⟩
      have HNX2 : Aside0 (Nx w (.slice AW wants.length cW) (.slice A9 (wants ++ [x]).length c9)) := ⟨by
        rcases HA17.out with h9 | ⟨b, h9, h8⟩
        · exact .inl h9
        · exact .inr (.inr ⟨b, h9, Nat.le_trans HGS.out.size h8⟩)⟩
      clear HO17 HG17 HA17 g0 y0
      go_wp2
      go_end0
      have hDl : (wants ++ [x]).length = wants.length + 1 := by simp
      rw [hDl] at HFN2 HGS2 HNX2
      exact ⟨rfl, _, _, HFN2.out, HNX.out, HNX2.out, HGS2.out⟩
theorem cellfar_ {w : World} {g j b o : Nat} {u v : Value} (h : w.cell? ⟨b, o, none⟩ = some v) (hne : b ≠ g) : (w.setCell ⟨g, j, none⟩ u).cell? ⟨b, o, none⟩ = some v := (World.cell?_of_block (a := ⟨b, o, none⟩) (set_keep_ w g j u b hne)).trans h
/-- asking on -/
def onL (en : Int) : Nat → List S82 → Int → List S82 → List S82 × Int × List S82
  | 0, out, front, wants => (out, front, wants)
  | k + 1, out, front, wants => if out.length < 6 ∧ front ≤ 2048 ∧ (en < 0 ∨ front < en) then onL en k (out ++ [⟨front, 100⟩]) (front + 100) (wants ++ [⟨front, 100⟩]) else (out, front, wants)
def MB (w : World) (fb nb : Nat) (vO vW : Value) : Nat → Prop := fun k => MA fb nb vO vW k ∨ w.heap.size ≤ k
theorem MA_MB {w : World} {fb nb : Nat} {vO vW vO1 vW1 : Value} (hO : Nx w vO vO1) (hW : Nx w vW vW1) : ∀ k, MA fb nb vO1 vW1 k → MB w fb nb vO vW k := by
  intro k hk
  rcases hk with hk | hk | hk | hk
  · exact .inl (.inl hk)
  · exact .inl (.inr (.inl hk))
  · rcases hO with h | h | ⟨b, h, hb⟩
    · exact .inl (.inr (.inr (.inl (h ▸ hk))))
    · rw [h] at hk; cases hk
    · rw [h] at hk; injection hk with hk; exact .inr (by omega)
  · rcases hW with h | h | ⟨b, h, hb⟩
    · exact .inl (.inr (.inr (.inr (h ▸ hk))))
    · rw [h] at hk; cases hk
    · rw [h] at hk; injection hk with hk; exact .inr (by omega)
/-- the loop of asking -/
def OnR (w : World) (base fb nb pb : Nat) (vO vD vW vN : Value) (out : List S82) (front en : Int) (data : List Int) (code : Int) (wants : List S82) (dn : Bool) (nd : List Int) (wr : World) (k : Nat) (out1 : List S82) (front1 : Int) (wants1 : List S82) : Prop :=
  ∃ vO1 vW1, FN wr base fb nb vO1 vD vW1 vN out1 front1 en data code wants1 dn nd ∧ Nx w vO vO1 ∧ Nx w vW vW1 ∧ Gs (MB w fb nb vO vW) w wr ∧ wr.heap[pb]? = some (.cells #[.pointer (some ⟨fb, 0, none⟩)] 83 (0, 0)) ∧ onL en k out1 front1 wants1 = onL en 6 out front wants ∧ 6 ≤ k + out1.length ∧ out1.length ≤ 50000 + 6 - k ∧ wants1.length ≤ 50000 + 6 - k ∧ k ≤ 6 ∧ 0 ≤ front1
theorem OnR.drewN {w : World} {base fb nb pb : Nat} {vO vD vW vN : Value} {out : List S82} {front en : Int} {data : List Int} {code : Int} {wants : List S82} {dn : Bool} {nd : List Int} {wr : World} {k : Nat} {out1 : List S82} {front1 : Int} {wants1 : List S82} (h : OnR w base fb nb pb vO vD vW vN out front en data code wants dn nd wr k out1 front1 wants1) (n : Nat) : OnR w base fb nb pb vO vD vW vN out front en data code wants dn nd (wr.drewN n) k out1 front1 wants1 := by
  obtain ⟨vO1, vW1, h1, h2, h3, h4, h5, h6⟩ := h
  have hb : Below wr.heap.size wr (wr.drewN n) := pw_below_drewN (Below.refl _ _) n
  exact ⟨vO1, vW1, h1.below hb, h2, h3, h4.trans (Gs.of_below hb), h5, h6⟩
theorem onL_end {en : Int} {k : Nat} {out : List S82} {front : Int} {wants : List S82} (h : ¬ (out.length < 6 ∧ front ≤ 2048 ∧ (en < 0 ∨ front < en))) : onL en k out front wants = (out, front, wants) := by
  cases k with
  | zero => rfl
  | succ k => unfold onL; rw [if_neg h]
theorem OnR.done {w : World} {base fb nb pb : Nat} {vO vD vW vN : Value} {out : List S82} {front en : Int} {data : List Int} {code : Int} {wants : List S82} {dn : Bool} {nd : List Int} {wr : World} {k : Nat} {out1 : List S82} {front1 : Int} {wants1 : List S82} (h : OnR w base fb nb pb vO vD vW vN out front en data code wants dn nd wr k out1 front1 wants1) (hc : ¬ (out1.length < 6 ∧ front1 ≤ 2048 ∧ (en < 0 ∨ front1 < en))) : OnR w base fb nb pb vO vD vW vN out front en data code wants dn nd wr k (onL en 6 out front wants).1 (onL en 6 out front wants).2.1 (onL en 6 out front wants).2.2 := by
  have he : onL en 6 out front wants = (out1, front1, wants1) := by
    obtain ⟨_, _, _, _, _, _, _, h6, _⟩ := h
    rw [← h6, onL_end hc]
  rw [show (onL en 6 out front wants).1 = out1 by rw [he], show (onL en 6 out front wants).2.1 = front1 by rw [he], show (onL en 6 out front wants).2.2 = wants1 by rw [he]]
  exact h
theorem FN.setFront {w : World} {base fb nb : Nat} {vO vD vW vN : Value} {out wants : List S82} {front en code : Int} {data nd : List Int} {dn : Bool} (h : FN w base fb nb vO vD vW vN out front en data code wants dn nd) (f : Int) : FN (w.setCell ⟨fb, 1, none⟩ (.int .i64 f)) base fb nb vO vD vW vN out f en data code wants dn nd :=
  ⟨blk_put h.hF 1 _ rfl, (set_keep_ _ _ _ _ nb (blk_ne h.hN h.hF (by decide))).trans h.hN, Kd.R_set h.rO h.hF (by decide) 1 _, Kd.R_set h.rW h.hF (by decide) 1 _, Kd.R_set h.rD h.hF (by decide) 1 _, Kd.R_set h.rN h.hF (by decide) 1 _, h.ow, h.dn', h.bf, h.bn⟩
theorem FN.setDone {w : World} {base fb nb : Nat} {vO vD vW vN : Value} {out wants : List S82} {front en code : Int} {data nd : List Int} {dn : Bool} (h : FN w base fb nb vO vD vW vN out front en data code wants dn nd) (f : Bool) : FN (w.setCell ⟨nb, 2, none⟩ (.bool f)) base fb nb vO vD vW vN out front en data code wants f nd :=
  ⟨(set_keep_ _ _ _ _ fb (blk_ne h.hF h.hN (by decide))).trans h.hF, blk_put h.hN 2 _ rfl, Kd.R_set h.rO h.hN (by decide) 2 _, Kd.R_set h.rW h.hN (by decide) 2 _, Kd.R_set h.rD h.hN (by decide) 2 _, Kd.R_set h.rN h.hN (by decide) 2 _, h.ow, h.dn', h.bf, h.bn⟩
theorem FN.setND {w : World} {base fb nb : Nat} {vO vD vW vN : Value} {out wants : List S82} {front en code : Int} {data nd : List Int} {dn : Bool} (h : FN w base fb nb vO vD vW vN out front en data code wants dn nd) {v : Value} {nd1 : List Int} (r : (Kd.int .u8).R 5 w base (fun _ => True) v nd1) (hv : ∀ k, vD.ownBlock = some k → v.ownBlock = some k → False) : FN (w.setCell ⟨nb, 3, none⟩ v) base fb nb vO vD vW v out front en data code wants dn nd1 :=
  ⟨(set_keep_ _ _ _ _ fb (blk_ne h.hF h.hN (by decide))).trans h.hF, blk_put h.hN 3 _ rfl, Kd.R_set h.rO h.hN (by decide) 3 _, Kd.R_set h.rW h.hN (by decide) 3 _, Kd.R_set h.rD h.hN (by decide) 3 _, Kd.R_set r h.hN (by decide) 3 _, h.ow, hv, h.bf, h.bn⟩
set_option maxHeartbeats 8000000 in
set_option maxRecDepth 100000 in
theorem on_calls {w : World} {base fb nb : Nat} {vO vD vW vN : Value} {out wants : List S82} {front en code : Int} {data nd : List Int} {dn : Bool} (h : FN w base fb nb vO vD vW vN out front en data code wants dn nd) (hl1 : out.length ≤ 50000) (hl2 : wants.length ≤ 50000) (hd : data.length ≤ 100000) (hfr : 0 ≤ front ∧ front ≤ 100000) (hen : -1 ≤ en ∧ en ≤ 100000) (o2 ws2 : List S82) (fr2 : Int) (hq : onL en 6 out front wants = (o2, fr2, ws2)) (b : Bool) (hb : (decide (0 ≤ en) && !(o2.any fun x => decide (x.f0 < en))) = b) :
    Calls Try.prog 34 #[.pointer (some ⟨fb, 0, none⟩), .pointer (some ⟨nb, 0, none⟩)] w fun e w' => e = .returned (.tuple #[]) ∧ ∃ vO' vW' vN', FN w' base fb nb vO' vD vW' vN' o2 fr2 en data code ws2 (if b = true then true else dn) (if b = true then data.take (mn en (data.length : Int)).toNat else nd) ∧ Nx w vO vO' ∧ Nx w vW vW' ∧ Nx w vN vN' ∧ Gs (MA fb nb vO vW) w w' := by
  have HQ := Aside0.mk hq
  have HBB := Aside0.mk hb
  clear hq hb
  have hu82 := Try.underlying82
  have hu85 := Try.underlying85
  have hu71 := Try.underlying71
  have hB0 : Below w.heap.size w (w.alloc (Obj.cells #[.pointer (some ⟨fb, 0, none⟩)] 83)) := below_alloc (Below.refl _ _) _
  have H1 := Aside0.mk (h.below hB0)
  have HP := Aside0.mk (blk_new w (Obj.cells #[.pointer (some ⟨fb, 0, none⟩)] 83))
  have HB0 := Aside0.mk hB0
  have H := Aside0.mk h
  clear h hB0
  go_enter Try.func34, Try.ntmps34
  go_upto_block 0 with (fail)
  obtain ⟨W1, hW1⟩ : ∃ y, w.alloc (Obj.cells #[.pointer (some ⟨fb, 0, none⟩)] 83) = y := ⟨_, rfl⟩
  rw [hW1] at H1 HP HB0 ⊢
  clear hW1
  have H0 : Aside0 (OnR w base fb nb w.heap.size vO vD vW vN out front en data code wants dn nd W1 6 out front wants) := ⟨⟨vO, vW, H1.out, Nx.refl _ _, Nx.refl _ _, Gs.of_below HB0.out, HP.out, rfl, by omega, by omega, by omega, by omega, hfr.1⟩⟩
  go_cut [] (fun wc => Aside0 (∃ k, OnR w base fb nb w.heap.size vO vD vW vN out front en data code wants dn nd wc k (onL en 6 out front wants).1 (onL en 6 out front wants).2.1 (onL en 6 out front wants).2.2))
  case first =>
    go_wp2
    go_loopg [] 6 (fun kq wr => ∃ (out1 : List S82) (front1 : Int) (wants1 : List S82), Aside0 (OnR w base fb nb w.heap.size vO vD vW vN out front en data code wants dn nd wr kq out1 front1 wants1))
    case atStart => exact ⟨out, front, wants, H0⟩
    case round =>
      obtain ⟨out1, front1, wants1, HR⟩ := hrel
      obtain ⟨wo, hwo⟩ : ∃ wo : World, wo = wr := ⟨_, rfl⟩
      subst hwo
      obtain ⟨vO1, vW1, hFN, hNO, hNW, hGS, hP, hon, h6, hb1, hb2, hk6, hf0⟩ := HR.out
      obtain ⟨AO, cO, hvO⟩ := Kd.R_slice hFN.rO
      subst hvO
      have p0 : wo.cell? ⟨w.heap.size, 0, none⟩ = some (.pointer (some ⟨fb, 0, none⟩)) := (blk_cell hP 0).trans rfl
      have f0 : wo.cell? ⟨fb, 0, none⟩ = some (.slice AO out1.length cO) := (blk_cell hFN.hF 0).trans rfl
      have f1 : wo.cell? ⟨fb, 1, none⟩ = some (.int .i64 front1) := (blk_cell hFN.hF 1).trans rfl
      have f2 : wo.cell? ⟨fb, 2, none⟩ = some (.int .i64 en) := (blk_cell hFN.hF 2).trans rfl
      have z1 := blk_frozen hFN.hF 1
      go_upto_region 1 with (fail)
      by_cases c1 : out1.length < 6
      · have k1 : decide ((out1.length : Int) < 6) = true := decide_eq_true (by omega)
        by_cases c2 : front1 ≤ 2048
        · have k2 : decide (front1 ≤ 2048) = true := decide_eq_true c2
          by_cases c3 : en < 0
          · have k3 : decide (en < 0) = true := decide_eq_true c3
            have hcnd : out1.length < 6 ∧ front1 ≤ 2048 ∧ (en < 0 ∨ front1 < en) := ⟨c1, c2, .inl c3⟩
            have HC := Aside0.mk hcnd
            have HFB := Aside0.mk (show out1.length ≤ 100000 ∧ wants1.length ≤ 100000 ∧ 0 ≤ front1 ∧ front1 ≤ 2048 from ⟨by omega, by omega, hf0, c2⟩)
            obtain ⟨k9, hk9⟩ : ∃ k9, gk = k9 + 1 := ⟨gk - 1, by omega⟩
            have HK9 := Aside0.mk hk9
            clear hcnd hk9
            go_quiet (fail)
            go_upto_region 2 with (fail)
            have HRp := Aside0.mk (HR.out.drewN nq)
            obtain ⟨wp, hwp⟩ : ∃ y, wo.drewN nq = y := ⟨_, rfl⟩
            rw [hwp] at HRp ⊢
            clear hwp p0 f0 f1 f2 z1
            obtain ⟨vO2, vW2, hFNp, hNOp, hNWp, hGSp, hPp, honp, _⟩ := HRp.out
            have HFNp := Aside0.mk hFNp
            have HNOp := Aside0.mk hNOp
            have HNWp := Aside0.mk hNWp
            have HGSp := Aside0.mk hGSp
            have HPp := Aside0.mk hPp
            have HONp := Aside0.mk honp
            have p0 : wp.cell? ⟨w.heap.size, 0, none⟩ = some (.pointer (some ⟨fb, 0, none⟩)) := (blk_cell hPp 0).trans rfl
            have f1 : wp.cell? ⟨fb, 1, none⟩ = some (.int .i64 front1) := (blk_cell hFNp.hF 1).trans rfl
            clear hFNp hNOp hNWp hGSp hPp honp
            go_cut [] (fun wc => Aside0 (∃ vO3 vW3, FN wc base fb nb vO3 vD vW3 vN (out1 ++ [⟨front1, 100⟩]) front1 en data code (wants1 ++ [⟨front1, 100⟩]) dn nd ∧ Nx w vO vO3 ∧ Nx w vW vW3 ∧ Gs (MB w fb nb vO vW) w wc ∧ wc.heap[w.heap.size]? = some (.cells #[.pointer (some ⟨fb, 0, none⟩)] 83 (0, 0))))
            case first =>
              go_region_law (refine goesW_ Try.func43 (by kernel_rfl) rfl #[.pointer (some ⟨fb, 0, none⟩), .pointer (some ⟨nb, 0, none⟩), .agg #[.int .i64 front1, .int .i64 100]] rfl rfl rfl rfl (by (try simp only [List.map_toArray, List.map_cons, List.map_nil]); first | done | rfl) ?_; refine (ask_calls (HFNp.out.below (below_drew (Below.refl _ _))) ⟨front1, 100⟩ HFB.out.1 HFB.out.2.1).mono ?_; rintro e w5 ⟨rfl, vO3, vW3, hFN3, hNO3, hNW3, hGS3⟩; refine ⟨_, rfl, ?_⟩; have HFN3 := Aside0.mk hFN3; have HNO3 := Aside0.mk hNO3; have HNW3 := Aside0.mk hNW3; have HGS3 := Aside0.mk hGS3; clear hFN3 hNO3 hNW3 hGS3)
              all_goals
                go_wp2
                go_meet
                case rel =>
                  have hsz : w.heap.size ≤ wp.heap.size := HGSp.out.size
                  refine ⟨⟨vO3, vW3, HFN3.out, HNOp.out.trans hsz HNO3.out, HNWp.out.trans hsz HNW3.out, HGSp.out.trans ((Gs.of_below (below_drew (Below.refl _ _))).trans (HGS3.out.weak (fun k _ hk => MA_MB HNOp.out HNWp.out k hk))), ?_⟩⟩
                  refine (HGS3.out.block w.heap.size (blk_lt HPp.out) ?_).trans HPp.out
                  rintro (e9 | e9 | e9 | e9)
                  · exact blk_ne HPp.out HFNp.out.hF (by decide) e9
                  · exact blk_ne HPp.out HFNp.out.hN (by decide) e9
                  · exact ne_typed_ (Kd.R_typed HFNp.out.rO _ e9) ⟨_, HPp.out⟩ (by decide) rfl
                  · exact ne_typed_ (Kd.R_typed HFNp.out.rW _ e9) ⟨_, HPp.out⟩ (by decide) rfl
            case rest =>
              obtain ⟨vO3, vW3, hFN3, hNO3, hNW3, hGS3, hP3⟩ := hcut.out
              obtain ⟨w6, hw6⟩ : ∃ y : World, y = wc := ⟨_, rfl⟩
              subst hw6
              have p0 : w6.cell? ⟨w.heap.size, 0, none⟩ = some (.pointer (some ⟨fb, 0, none⟩)) := (blk_cell hP3 0).trans rfl
              have f1 : w6.cell? ⟨fb, 1, none⟩ = some (.int .i64 front1) := (blk_cell hFN3.hF 1).trans rfl
              have z1 := blk_frozen hFN3.hF 1
              have hb9 := HFB.out
              have hw1 : IntKind.i64.wrap (front1 + 100) = front1 + 100 := by simp only [i64_w]; unfold wrap64; omega
              have HFN3 := Aside0.mk (hFN3.setFront (front1 + 100))
              have HGS3 := Aside0.mk (hGS3.set (g := fb) (.inl (.inl (.inl rfl))) 1 (.int .i64 (front1 + 100)))
              have HP3 := Aside0.mk ((set_keep_ w6 fb 1 (.int .i64 (front1 + 100)) w.heap.size (fun e9 => blk_ne hP3 hFN3.hF (by decide) e9)).trans hP3)
              have HN3 := Aside0.mk (And.intro hNO3 hNW3)
              clear hcut hFN3 hGS3 hP3 hNO3 hNW3 hb9
              go_wp2
              go_roundg k9
              case measure => have := HK9.out; omega
              case rel =>
                refine ⟨_, _, _, ⟨vO3, vW3, HFN3.out, HN3.out.1, HN3.out.2, HGS3.out, HP3.out, ?_, ?_, ?_, ?_, ?_, ?_⟩⟩
                · rw [← HONp.out, HK9.out]; exact (show _ = _ by conv => rhs; unfold onL; rw [if_pos HC.out])
                · have := HK9.out; have := HC.out.1; rw [List.length_append]; simp only [List.length_cons, List.length_nil]; omega
                · have := HK9.out; rw [List.length_append]; simp only [List.length_cons, List.length_nil]; omega
                · have := HK9.out; rw [List.length_append]; simp only [List.length_cons, List.length_nil]; omega
                · have := HK9.out; omega
                · have := HFB.out.2.2.1; omega
          · have k3 : decide (en < 0) = false := decide_eq_false c3
            by_cases c4 : front1 < en
            · have k4 : decide (front1 < en) = true := decide_eq_true c4
              have hcnd : out1.length < 6 ∧ front1 ≤ 2048 ∧ (en < 0 ∨ front1 < en) := ⟨c1, c2, .inr c4⟩
              have HC := Aside0.mk hcnd
              have HFB := Aside0.mk (show out1.length ≤ 100000 ∧ wants1.length ≤ 100000 ∧ 0 ≤ front1 ∧ front1 ≤ 2048 from ⟨by omega, by omega, hf0, c2⟩)
              obtain ⟨k9, hk9⟩ : ∃ k9, gk = k9 + 1 := ⟨gk - 1, by omega⟩
              have HK9 := Aside0.mk hk9
              clear hcnd hk9
              go_quiet (fail)
              go_upto_region 2 with (fail)
              have HRp := Aside0.mk (HR.out.drewN nq)
              obtain ⟨wp, hwp⟩ : ∃ y, wo.drewN nq = y := ⟨_, rfl⟩
              rw [hwp] at HRp ⊢
              clear hwp p0 f0 f1 f2 z1
              obtain ⟨vO2, vW2, hFNp, hNOp, hNWp, hGSp, hPp, honp, _⟩ := HRp.out
              have HFNp := Aside0.mk hFNp
              have HNOp := Aside0.mk hNOp
              have HNWp := Aside0.mk hNWp
              have HGSp := Aside0.mk hGSp
              have HPp := Aside0.mk hPp
              have HONp := Aside0.mk honp
              have p0 : wp.cell? ⟨w.heap.size, 0, none⟩ = some (.pointer (some ⟨fb, 0, none⟩)) := (blk_cell hPp 0).trans rfl
              have f1 : wp.cell? ⟨fb, 1, none⟩ = some (.int .i64 front1) := (blk_cell hFNp.hF 1).trans rfl
              clear hFNp hNOp hNWp hGSp hPp honp
              go_cut [] (fun wc => Aside0 (∃ vO3 vW3, FN wc base fb nb vO3 vD vW3 vN (out1 ++ [⟨front1, 100⟩]) front1 en data code (wants1 ++ [⟨front1, 100⟩]) dn nd ∧ Nx w vO vO3 ∧ Nx w vW vW3 ∧ Gs (MB w fb nb vO vW) w wc ∧ wc.heap[w.heap.size]? = some (.cells #[.pointer (some ⟨fb, 0, none⟩)] 83 (0, 0))))
              case first =>
                go_region_law (refine goesW_ Try.func43 (by kernel_rfl) rfl #[.pointer (some ⟨fb, 0, none⟩), .pointer (some ⟨nb, 0, none⟩), .agg #[.int .i64 front1, .int .i64 100]] rfl rfl rfl rfl (by (try simp only [List.map_toArray, List.map_cons, List.map_nil]); first | done | rfl) ?_; refine (ask_calls (HFNp.out.below (below_drew (Below.refl _ _))) ⟨front1, 100⟩ HFB.out.1 HFB.out.2.1).mono ?_; rintro e w5 ⟨rfl, vO3, vW3, hFN3, hNO3, hNW3, hGS3⟩; refine ⟨_, rfl, ?_⟩; have HFN3 := Aside0.mk hFN3; have HNO3 := Aside0.mk hNO3; have HNW3 := Aside0.mk hNW3; have HGS3 := Aside0.mk hGS3; clear hFN3 hNO3 hNW3 hGS3)
                all_goals
                  go_wp2
                  go_meet
                  case rel =>
                    have hsz : w.heap.size ≤ wp.heap.size := HGSp.out.size
                    refine ⟨⟨vO3, vW3, HFN3.out, HNOp.out.trans hsz HNO3.out, HNWp.out.trans hsz HNW3.out, HGSp.out.trans ((Gs.of_below (below_drew (Below.refl _ _))).trans (HGS3.out.weak (fun k _ hk => MA_MB HNOp.out HNWp.out k hk))), ?_⟩⟩
                    refine (HGS3.out.block w.heap.size (blk_lt HPp.out) ?_).trans HPp.out
                    rintro (e9 | e9 | e9 | e9)
                    · exact blk_ne HPp.out HFNp.out.hF (by decide) e9
                    · exact blk_ne HPp.out HFNp.out.hN (by decide) e9
                    · exact ne_typed_ (Kd.R_typed HFNp.out.rO _ e9) ⟨_, HPp.out⟩ (by decide) rfl
                    · exact ne_typed_ (Kd.R_typed HFNp.out.rW _ e9) ⟨_, HPp.out⟩ (by decide) rfl
              case rest =>
                obtain ⟨vO3, vW3, hFN3, hNO3, hNW3, hGS3, hP3⟩ := hcut.out
                obtain ⟨w6, hw6⟩ : ∃ y : World, y = wc := ⟨_, rfl⟩
                subst hw6
                have p0 : w6.cell? ⟨w.heap.size, 0, none⟩ = some (.pointer (some ⟨fb, 0, none⟩)) := (blk_cell hP3 0).trans rfl
                have f1 : w6.cell? ⟨fb, 1, none⟩ = some (.int .i64 front1) := (blk_cell hFN3.hF 1).trans rfl
                have z1 := blk_frozen hFN3.hF 1
                have hb9 := HFB.out
                have hw1 : IntKind.i64.wrap (front1 + 100) = front1 + 100 := by simp only [i64_w]; unfold wrap64; omega
                have HFN3 := Aside0.mk (hFN3.setFront (front1 + 100))
                have HGS3 := Aside0.mk (hGS3.set (g := fb) (.inl (.inl (.inl rfl))) 1 (.int .i64 (front1 + 100)))
                have HP3 := Aside0.mk ((set_keep_ w6 fb 1 (.int .i64 (front1 + 100)) w.heap.size (fun e9 => blk_ne hP3 hFN3.hF (by decide) e9)).trans hP3)
                have HN3 := Aside0.mk (And.intro hNO3 hNW3)
                clear hcut hFN3 hGS3 hP3 hNO3 hNW3 hb9
                go_wp2
                go_roundg k9
                case measure => have := HK9.out; omega
                case rel =>
                  refine ⟨_, _, _, ⟨vO3, vW3, HFN3.out, HN3.out.1, HN3.out.2, HGS3.out, HP3.out, ?_, ?_, ?_, ?_, ?_, ?_⟩⟩
                  · rw [← HONp.out, HK9.out]; exact (show _ = _ by conv => rhs; unfold onL; rw [if_pos HC.out])
                  · have := HK9.out; have := HC.out.1; rw [List.length_append]; simp only [List.length_cons, List.length_nil]; omega
                  · have := HK9.out; rw [List.length_append]; simp only [List.length_cons, List.length_nil]; omega
                  · have := HK9.out; rw [List.length_append]; simp only [List.length_cons, List.length_nil]; omega
                  · have := HK9.out; omega
                  · have := HFB.out.2.2.1; omega
            · have k4 : decide (front1 < en) = false := decide_eq_false c4
              have HC := Aside0.mk (show ¬ (out1.length < 6 ∧ front1 ≤ 2048 ∧ (en < 0 ∨ front1 < en)) from (fun h => h.2.2.elim c3 c4))
              go_quiet (fail)
              go_wp2
              go_meet
              case rel => exact ⟨⟨gk, (HR.out.done HC.out).drewN _⟩⟩
        · have k2 : decide (front1 ≤ 2048) = false := decide_eq_false c2
          have HC := Aside0.mk (show ¬ (out1.length < 6 ∧ front1 ≤ 2048 ∧ (en < 0 ∨ front1 < en)) from (fun h => c2 h.2.1))
          go_quiet (fail)
          go_wp2
          go_meet
          case rel => exact ⟨⟨gk, (HR.out.done HC.out).drewN _⟩⟩
      · have k1 : decide ((out1.length : Int) < 6) = false := decide_eq_false (by omega)
        have HC := Aside0.mk (show ¬ (out1.length < 6 ∧ front1 ≤ 2048 ∧ (en < 0 ∨ front1 < en)) from (fun h => c1 h.1))
        go_quiet (fail)
        go_wp2
        go_meet
        case rel => exact ⟨⟨gk, (HR.out.done HC.out).drewN _⟩⟩
  case rest =>
    obtain ⟨kk, hOn⟩ := hcut.out
    rw [HQ.out] at hOn
    obtain ⟨w2, hw2⟩ : ∃ y : World, y = wc := ⟨_, rfl⟩
    subst hw2
    obtain ⟨vO2, vW2, hFN, hNO, hNW, hGS, hP, _, _, hlo, _, _, _⟩ := hOn
    dsimp only at hFN
    have hlo2 : o2.length ≤ 50000 + 6 - kk := hlo
    obtain ⟨AO, cO, hvO⟩ := Kd.R_slice hFN.rO
    obtain ⟨AD, cD, hvD⟩ := Kd.R_slice hFN.rD
    subst hvO hvD
    have HFN := Aside0.mk hFN
    have HNO := Aside0.mk hNO
    have HNW := Aside0.mk hNW
    have HGS := Aside0.mk hGS
    have HP2 := Aside0.mk hP
    have p0 : w2.cell? ⟨w.heap.size, 0, none⟩ = some (.pointer (some ⟨fb, 0, none⟩)) := (blk_cell hP 0).trans rfl
    have f0 : w2.cell? ⟨fb, 0, none⟩ = some (.slice AO o2.length cO) := (blk_cell hFN.hF 0).trans rfl
    have f2 : w2.cell? ⟨fb, 2, none⟩ = some (.int .i64 en) := (blk_cell hFN.hF 2).trans rfl
    have HCT := Aside0.mk (contains_calls fb w.heap.size AO cO o2 fr2 en _ _ w2 (Kd.R_reads' hFN.rO).2.2 (by omega) hFN.hF hP)
    have hMA : ∀ (w' : World), Gs (MB w fb nb vO vW) w w' → Gs (MA fb nb vO vW) w w' := fun w' h => h.weak (fun k hk hm => hm.elim (fun h => h) (fun h => by omega))
    have HMA := Aside0.mk hMA
    clear hcut hFN hNO hNW hGS hP hlo hlo2 hMA
    by_cases c1 : 0 ≤ en
    · have k1 : decide (0 ≤ en) = true := decide_eq_true c1
      have HBB2 := HBB.out
      rw [k1, Bool.true_and] at HBB2
      obtain ⟨t, ht⟩ : ∃ t, (o2.any fun x => decide (x.f0 < en)) = t := ⟨_, rfl⟩
      rw [ht] at HCT HBB2
      clear ht
      cases t with
      | true =>
        have hbf : b = false := HBB2.symm.trans rfl
        clear HBB2 HBB c1
        subst hbf
        go_wp2_with (first
          | ((with_reducible refine gate_callee (f := 45) rfl ?_); (try (refine gate_guard (by rfl) ?_; dsimp only)); refine goesL_ _ rfl rfl Try.func45 (by kernel_rfl) rfl #[.slice AO o2.length cO, .func (.func 44) #[] #[.pointer (some ⟨w.heap.size, 0, none⟩)]] rfl (by (try simp only [List.map_toArray, List.map_cons, List.map_nil]); first | done | rfl) ?_; refine HCT.out.mono ?_; rintro e w3 ⟨rfl, hb3⟩; refine ⟨_, rfl, ?_⟩; have HB3 := Aside0.mk hb3; clear hb3))
        go_end0
        exact ⟨rfl, _, _, _, HFN.out.below HB3.out, HNO.out, HNW.out, Nx.refl _ _, HMA.out _ (HGS.out.trans (Gs.of_below HB3.out))⟩
      | false =>
        have hbf : b = true := HBB2.symm.trans rfl
        clear HBB2 HBB
        subst hbf
        go_upto_region 6 with (first
          | ((with_reducible refine gate_callee (f := 45) rfl ?_); (try (refine gate_guard (by rfl) ?_; dsimp only)); refine goesL_ _ rfl rfl Try.func45 (by kernel_rfl) rfl #[.slice AO o2.length cO, .func (.func 44) #[] #[.pointer (some ⟨w.heap.size, 0, none⟩)]] rfl (by (try simp only [List.map_toArray, List.map_cons, List.map_nil]); first | done | rfl) ?_; refine HCT.out.mono ?_; rintro e w3 ⟨rfl, hb3⟩; refine ⟨_, rfl, ?_⟩; have HB3 := Aside0.mk hb3; clear hb3))
        have HF3 := Aside0.mk (HFN.out.below HB3.out)
        have HP3 := Aside0.mk (blk_below HP2.out HB3.out)
        have HG3 := Aside0.mk (HGS.out.trans (Gs.of_below HB3.out))
        obtain ⟨AN, cN, hvN⟩ := Kd.R_slice HF3.out.rN
        subst hvN
        have q0 : w3.cell? ⟨w.heap.size, 0, none⟩ = some (.pointer (some ⟨fb, 0, none⟩)) := (blk_cell HP3.out 0).trans rfl
        have q2 : w3.cell? ⟨fb, 2, none⟩ = some (.int .i64 en) := (blk_cell HF3.out.hF 2).trans rfl
        have q3 : w3.cell? ⟨fb, 3, none⟩ = some (.slice AD data.length cD) := (blk_cell HF3.out.hF 3).trans rfl
        have HRD := Aside0.mk (Kd.R_reads' HF3.out.rD)
        obtain ⟨m, hm⟩ : ∃ m, mn en (data.length : Int) = m := ⟨_, rfl⟩
        have hm0 : 0 ≤ m ∧ m ≤ (data.length : Int) := by rw [← hm]; unfold mn; split <;> omega
        have hm2 : (if (data.length : Int) < en then (data.length : Int) else en) = m := by rw [← hm]; unfold mn; split <;> first | rfl | omega | (split <;> omega)
        have hmc : m ≤ (cD : Int) := by have := HRD.out.2.1; omega
        have hm00 : 0 ≤ m := hm0.1
        obtain ⟨i0, hi0, _, hsz0, _⟩ := info_parts info5
        have hkc := cut_to (P := Try.prog) 57 5 .i64 Try.underlying57 hi0 AD data.length cD m hm0.1 hm0.2 HRD.out.2.1
        have hmd : decide (m ≤ (data.length : Int)) = true := decide_eq_true hm0.2
        have hlen : (data.take m.toNat).length = m.toNat := by rw [List.length_take]; omega
        have HCLF := Aside0.mk (show slices_Clone_byte_byte.f (data.take m.toNat) = some (data.take m.toNat) by unfold slices_Clone_byte_byte.f; rw [Option.bind_some, if_pos (by rw [hlen]; simp; omega), List.nil_append])
        have HCL : Aside0 (∀ W, Kd.C (Kd.int .u8) W AD data.length data → Calls Try.prog 46 #[.slice AD m.toNat cD] W fun e w' => ∃ v0_ : Value, e = .returned v0_ ∧ Kd.R (Kd.int .u8) 5 w' W.heap.size (fun _ => True) v0_ (data.take m.toNat) ∧ Below W.heap.size W w') := ⟨fun W hC => by
          have h9 := slices_Clone_byte_byte.calls AD cD (data.take m.toNat) (data.take m.toNat) W (Kd.C_take hC (by omega)) (by rw [hlen]; have := HRD.out.2.1; omega) HCLF.out
          rw [hlen] at h9
          exact h9⟩
        have HM := Aside0.mk hm
        have HLEN := Aside0.mk hlen
        clear p0 f0 f2 HCT HCLF hlen k1 c1
        have hne1 : w.heap.size ≠ nb := blk_ne HP3.out HF3.out.hN (by decide)
        have hne2 : fb ≠ nb := blk_ne HF3.out.hF HF3.out.hN (by decide)
        go_region_held3 (fun w' => w'.cell? ⟨w.heap.size, 0, none⟩ = some (.pointer (some ⟨fb, 0, none⟩)) ∧ w'.cell? ⟨fb, 2, none⟩ = some (.int .i64 en) ∧ w'.cell? ⟨fb, 3, none⟩ = some (.slice AD data.length cD)) (first | exact ⟨cellfar_ r0 hne1, cellfar_ r2 hne2, cellfar_ r3 hne2⟩ | exact ⟨cellfar_ (cellfar_ r0 hne1) hne1, cellfar_ (cellfar_ r2 hne2) hne2, cellfar_ (cellfar_ r3 hne2) hne2⟩ | go_keep) (first | (go_at_call 46; refine (HCL.out w3.drew (Kd.C_drew HRD.out.2.2)).mono ?_; rintro e w4 ⟨v4, rfl, ho4, hb0⟩; have hb4 : Below w3.heap.size w3 w4 := (Below.refl _ w3).drew.trans hb0; obtain ⟨A9, c9, e9⟩ := Kd.R_slice ho4; subst e9; have HO4 := Aside0.mk ho4; have HB4 := Aside0.mk hb4; have HF4 := Aside0.mk (HF3.out.below hb4); have n2 : w4.cell? ⟨nb, 2, none⟩ = some (.bool dn) := (blk_cell HF4.out.hN 2).trans rfl; have y2 := blk_frozen HF4.out.hN 2; have n3 : w4.cell? ⟨nb, 3, none⟩ = some (.slice AN nd.length cN) := (blk_cell HF4.out.hN 3).trans rfl; have y3 := blk_frozen HF4.out.hN 3; have r0 := pw_cell_below hb4 q0; have r2 := pw_cell_below hb4 q2; have r3 := pw_cell_below hb4 q3; clear ho4 hb0 hb4))
        have hbase : base ≤ w3.heap.size := Nat.le_trans HF3.out.bf (Nat.le_of_lt (blk_lt HF3.out.hF))
        have hr9 := Kd.R_set (Kd.R_lower HO4.out (show base ≤ w3.drew.heap.size from hbase)) HF4.out.hN (by decide) 2 (.bool true)
        have hv9 : ∀ k, (Value.slice AD data.length cD).ownBlock = some k → (Value.slice A9 (data.take m.toNat).length c9).ownBlock = some k → False := fun k e1 e2 => by
          have h1 := Kd.R_lt HF3.out.rD k e1
          have h2 : w3.heap.size ≤ k := Kd.R_base HO4.out k e2
          omega
        have hfn := (HF4.out.setDone true).setND hr9 hv9
        have hnx : Nx w (.slice AN nd.length cN) (.slice A9 (data.take m.toNat).length c9) := by
          rcases Kd.R_base2 HO4.out with h9 | ⟨q, h9, h8⟩
          · exact .inr (.inl h9)
          · exact .inr (.inr ⟨q, h9, Nat.le_trans HG3.out.size h8⟩)
        have hgs := ((HG3.out.trans (Gs.of_below HB4.out)).set (g := nb) (.inl (.inl (.inr (.inl rfl)))) 2 (.bool true)).set (g := nb) (.inl (.inl (.inr (.inl rfl)))) 3 (.slice A9 (data.take m.toNat).length c9)
        rw [HLEN.out] at hfn hnx hgs
        have HFN9 := Aside0.mk hfn
        have HNX9 := Aside0.mk hnx
        have HGS9 := Aside0.mk (HMA.out _ hgs)
        clear hr9 hv9 hfn hnx hgs
        go_end0
        refine ⟨rfl, _, _, _, ?_, HNO.out, HNW.out, HNX9.out, HGS9.out⟩
        rw [HM.out, if_pos rfl, if_pos rfl]
        exact HFN9.out
    · have k1 : decide (0 ≤ en) = false := decide_eq_false c1
      have hbf : b = false := by rw [← HBB.out, k1]; rfl
      clear HBB c1
      subst hbf
      go_wp2
      go_end0
      exact ⟨rfl, _, _, _, HFN.out, HNO.out, HNW.out, Nx.refl _ _, HMA.out _ HGS.out⟩
theorem two_blocks_ (w : World) (a b : Obj) : ((w.alloc a).alloc b).heap[w.heap.size]? = some a ∧ ((w.alloc a).alloc b).heap[w.heap.size + 1]? = some b := by
  have e : (w.alloc a).heap.size = w.heap.size + 1 := by simp
  refine ⟨(Below.heap_alloc _ _ _ (by omega)).trans Array.getElem?_push_size, ?_⟩
  have h : ((w.alloc a).alloc b).heap[(w.alloc a).heap.size]? = some b := Array.getElem?_push_size
  rwa [e] at h
def fl (l : List S82) : List Value := l.flatMap fun x => [.int .i64 x.f0, .int .i64 x.f1]
theorem fl_cons (x : S82) (l : List S82) : fl (x :: l) = .int .i64 x.f0 :: .int .i64 x.f1 :: fl l := rfl
theorem fl_len : ∀ (l : List S82), (fl l).length = l.length * 2
  | [] => rfl
  | x :: l => by rw [fl_cons]; simp only [List.length_cons]; rw [fl_len l]; omega
theorem fl_append (a b : List S82) : fl (a ++ b) = fl a ++ fl b := by unfold fl; rw [List.flatMap_append]
theorem fl_take : ∀ (l : List S82) (n : Nat), (fl l).take (n * 2) = fl (l.take n)
  | [], n => by simp [fl]
  | x :: l, 0 => by simp [fl]
  | x :: l, n + 1 => by
    rw [fl_cons, show (n + 1) * 2 = n * 2 + 1 + 1 by omega, List.take_succ_cons, List.take_succ_cons, fl_take l n, List.take_succ_cons, fl_cons]
theorem fl_drop : ∀ (l : List S82) (n : Nat), (fl l).drop (n * 2) = fl (l.drop n)
  | [], n => by simp [fl]
  | x :: l, 0 => by simp
  | x :: l, n + 1 => by
    rw [fl_cons, show (n + 1) * 2 = n * 2 + 1 + 1 by omega, List.drop_succ_cons, List.drop_succ_cons, fl_drop l n, List.drop_succ_cons]
theorem fl_one (l : List S82) : ∀ u ∈ fl l, u.oneCell' = true := by
  intro u hu
  unfold fl at hu
  obtain ⟨x, _, hx⟩ := List.mem_flatMap.1 hu
  simp only [List.mem_cons, List.not_mem_nil, or_false] at hx
  rcases hx with rfl | rfl <;> rfl
theorem reps_fl {w : World} {base : Nat} {ok : Nat → Prop} : ∀ (l : List S82) (cs : List Value), Reps (fun x c => k82.M w base ok x c) 2 l cs → cs = fl l
  | [], cs, h => by
    have := h.1
    simp at this
    rw [this]; rfl
  | x :: l, cs, h => by
    have h0 := k82_openM (h.2 0 x rfl)
    rw [Nat.zero_mul, List.drop_zero] at h0
    have hr : Reps (fun x c => k82.M w base ok x c) 2 l (cs.drop 2) := by
      refine ⟨by rw [List.length_drop, h.1, List.length_cons]; omega, fun j p hj => ?_⟩
      have := h.2 (j + 1) p hj
      rw [List.drop_drop]
      rwa [show (j + 1) * 2 = 2 + j * 2 by omega] at this
    have h1 := reps_fl l _ hr
    rw [fl_cons, ← h1]
    have h2 := List.take_append_drop 2 cs
    rw [h0] at h2
    exact h2.symm
theorem fl_reps {w : World} {base : Nat} {ok : Nat → Prop} (l : List S82) : Reps (fun x c => k82.M w base ok x c) 2 l (fl l) := by
  refine ⟨fl_len l, fun j p hj => ?_⟩
  have hlt : j < l.length := (List.getElem?_eq_some_iff.1 hj).1
  have he : l.drop j = p :: l.drop (j + 1) := by
    rw [List.drop_eq_getElem_cons hlt]
    congr 1
    exact (List.getElem?_eq_some_iff.1 hj).2
  rw [fl_drop, he, fl_cons]
  exact k82_mkM _ _ _ p
theorem R82_open {w : World} {base g c : Nat} {ok : Nat → Prop} {l : List S82} (h : k82.R 82 w base ok (.slice (some ⟨g, 0, none⟩) l.length c) l) : ∃ cur, w.heap[g]? = some (.cells cur 82 (0, 0)) ∧ base ≤ g ∧ l.length ≤ c ∧ c ≤ maxLen ∧ cur.size = c * 2 ∧ cur.toList.take (l.length * 2) = fl l := by
  obtain ⟨_, inner, ho, hr⟩ := h
  rw [reps_fl l inner hr] at ho
  rcases ho.2 with ⟨h0, _⟩ | ⟨g', cap, cur, he, hb, hh, h1, h2, h3, h4⟩
  · cases h0
  · injection he with e1 e2 e3
    injection e1 with e1
    injection e1 with e1 _ _
    subst e1 e3
    exact ⟨cur, hh, hb, h1, h2, h3, h4⟩
theorem R82_make {w : World} {base g c : Nat} {l : List S82} {cur : Array Value} (hh : w.heap[g]? = some (.cells cur 82 (0, 0))) (hb : base ≤ g) (h1 : l.length ≤ c) (h2 : c ≤ maxLen) (h3 : cur.size = c * 2) (h4 : cur.toList.take (l.length * 2) = fl l) : k82.R 82 w base (fun _ => True) (.slice (some ⟨g, 0, none⟩) l.length c) l :=
  ⟨fun _ _ => trivial, fl l, ⟨fl_len l, .inr ⟨g, c, cur, rfl, hb, hh, h1, h2, h3, h4⟩⟩, fl_reps l⟩
theorem setCells_blk_ {g t : Nat} : ∀ (vs : List Value) (o : Nat) (W : World) (cur : Array Value), W.heap[g]? = some (.cells cur t (0, 0)) → o + vs.length ≤ cur.size → (W.setCells g o vs).heap[g]? = some (.cells (cur.toList.take o ++ vs ++ cur.toList.drop (o + vs.length)).toArray t (0, 0))
  | [], o, W, cur, h, _ => by
    rw [List.length_nil, Nat.add_zero, List.append_nil, List.take_append_drop]
    exact h
  | v :: r, o, W, cur, h, hl => by
    have hlt : o < cur.size := by simp only [List.length_cons] at hl; omega
    have h1 : (W.setCell ⟨g, o, none⟩ v).heap[g]? = some (.cells (cur.setIfInBounds o v) t (0, 0)) := blk_put h o v rfl
    have h2 := setCells_blk_ r (o + 1) _ _ h1 (by rw [Array.size_setIfInBounds]; simp only [List.length_cons] at hl; omega)
    have e1 : (cur.setIfInBounds o v).toList = cur.toList.take o ++ v :: cur.toList.drop (o + 1) := by
      rw [Array.toList_setIfInBounds, List.set_eq_take_append_cons_drop, if_pos (by simpa using hlt)]
    have lt : (cur.toList.take o).length = o := by rw [List.length_take]; simp; omega
    have e2 : (cur.setIfInBounds o v).toList.take (o + 1) = cur.toList.take o ++ [v] := by
      rw [e1, List.take_append, lt, List.take_of_length_le (by omega), show o + 1 - o = 1 by omega]; rfl
    have e3 : (cur.setIfInBounds o v).toList.drop (o + 1 + r.length) = cur.toList.drop (o + (v :: r).length) := by
      rw [e1, List.drop_append, lt, List.drop_of_length_le (by omega), List.nil_append, show o + 1 + r.length - o = r.length + 1 by omega, List.drop_succ_cons, List.drop_drop]
      congr 1
      simp only [List.length_cons]; omega
    rw [e2, e3] at h2
    rw [World.setCells, h2]
    simp
theorem gs_setCells_ (g : Nat) : ∀ (vs : List Value) (o : Nat) (w0 w : World), Gs (fun k => k = g) w0 w → Gs (fun k => k = g) w0 (w.setCells g o vs)
  | [], _, _, _, h => h
  | v :: r, o, w0, w, h => gs_setCells_ g r (o + 1) w0 _ (h.set (.inl rfl) o v)
set_option maxHeartbeats 8000000 in
set_option maxRecDepth 100000 in
theorem delete_calls {w : World} {base g c i : Nat} {l : List S82} (hR : k82.R 82 w base (fun _ => True) (.slice (some ⟨g, 0, none⟩) l.length c) l) (hi : i < l.length) (hl : l.length ≤ 100000) :
    Calls Try.prog 48 #[.slice (some ⟨g, 0, none⟩) l.length c, .int .i64 (i : Int), .int .i64 ((i : Int) + 1)] w fun e w' => e = .returned (.slice (some ⟨g, 0, none⟩) (l.length - 1) c) ∧ k82.R 82 w' base (fun _ => True) (.slice (some ⟨g, 0, none⟩) (l.length - 1) c) (l.eraseIdx i) ∧ Gs (fun k => k = g) w w' := by
  obtain ⟨cur, hh, hb, hc1, hc2, hcs, hct⟩ := R82_open hR
  have hu82 := Try.underlying82
  have hu69 := Try.underlying69
  obtain ⟨i0, hi0, hz0, hsz0, hbt0⟩ := info_parts info82_
  have hmx : c ≤ 9223372036854775807 := hc2
  have HH := Aside0.mk hh
  have HCS := Aside0.mk (And.intro hcs hct)
  have HB := Aside0.mk hb
  have k1 : ((i : Int) == (i : Int) + 1) = false := by rw [beq_eq_false_iff_ne]; omega
  clear hR hh hct hcs hb
  go_enter Try.func48, Try.ntmps48
  go_upto_region 5 with (fail)
  obtain ⟨news, hnews⟩ : ∃ news, news = fl (l.drop (i + 1)) := ⟨_, rfl⟩
  have hnl : news.length = (l.length - (i + 1)) * 2 := by rw [hnews, fl_len, List.length_drop]
  have hcl : cur.toList.length = c * 2 := by rw [Array.length_toList]; exact HCS.out.1
  have hcell : ∀ k, k < c * 2 → w.cell? ⟨g, k, none⟩ = cur.toList[k]? ∧ w.frozen? ⟨g, k, none⟩ = false := fun k hk => ⟨by rw [blk_cell HH.out k]; simp, blk_frozen HH.out k⟩
  have hget : ∀ j u, news[j]? = some u → w.cell? ⟨g, (i + 1) * 2 + j, none⟩ = some u := fun j u hu => by
    have hj : j < news.length := (List.getElem?_eq_some_iff.1 hu).1
    rw [(hcell _ (by omega)).1]
    rw [hnews, ← fl_drop, ← HCS.out.2, List.getElem?_drop, List.getElem?_take, if_pos (by omega)] at hu
    exact hu
  obtain ⟨A, hA, hsrc⟩ : ∃ A : Addr, (if c = i + 1 then some (⟨g, 0, none⟩ : Addr) else some ⟨g, (i + 1) * 2, none⟩) = some A ∧ Aside0 (∀ j u, news[j]? = some u → w.drew.cell? (A.add j) = some u) := by
    by_cases h : c = i + 1
    · refine ⟨⟨g, 0, none⟩, by simp [h], ⟨fun j u hu => ?_⟩⟩
      have hj : j < news.length := (List.getElem?_eq_some_iff.1 hu).1
      omega
    · exact ⟨⟨g, (i + 1) * 2, none⟩, by simp [h], ⟨fun j u hu => by rw [show (⟨g, (i + 1) * 2, none⟩ : Addr).add j = ⟨g, (i + 1) * 2 + j, none⟩ by simp [Addr.add]]; exact hget j u hu⟩⟩
  have s1 : Aside0 (news.length = (l.length - (i + 1)) * 2) := ⟨hnl⟩
  have s2 : Aside0 (∀ u ∈ news, u.oneCell' = true) := ⟨by rw [hnews]; exact fl_one _⟩
  have s3 : Aside0 (∀ j, j < news.length → (w.drew.cell? ⟨g, 0 + i * 2 + j, none⟩).isSome = true ∧ w.drew.frozen? ⟨g, 0 + i * 2 + j, none⟩ = false) := ⟨fun j hj => by
    have hc := hcell (0 + i * 2 + j) (by omega)
    refine ⟨?_, hc.2⟩
    show (w.cell? ⟨g, 0 + i * 2 + j, none⟩).isSome = true
    rw [hc.1, List.getElem?_eq_getElem (by omega)]; rfl⟩
  have hj1 : i + 1 ≤ c := by omega
  have hic : i ≤ c := by omega
  have hjp : (0 : Int) ≤ (i : Int) + 1 := by omega
  have hji : (i : Int) + 1 ≤ (l.length : Int) := by omega
  have hjl : i + 1 ≤ l.length := by omega
  have HNEWS := Aside0.mk hnews
  have HCL := Aside0.mk hcl
  clear hnews hnl hcl hcell hget k1
  obtain ⟨W1, hW1⟩ : ∃ y, w.drew.setCells g (0 + i * 2) news = y := ⟨_, rfl⟩
  have hB1 := setCells_blk_ news (0 + i * 2) w.drew cur HH.out (by rw [s1.out, HCS.out.1]; omega)
  have hG1 := gs_setCells_ g news (0 + i * 2) w w.drew (Gs.of_below (below_drew (Below.refl _ _)))
  rw [hW1] at hB1 hG1
  obtain ⟨m, hm⟩ : ∃ m, i + (l.length - (i + 1)) = m := ⟨_, rfl⟩
  have hml : m + 1 = l.length := by omega
  have hB1' : W1.heap[g]? = some (.cells (fl (l.eraseIdx i) ++ cur.toList.drop (m * 2)).toArray 82 (0, 0)) := by
    rw [hB1]
    congr 3
    rw [Nat.zero_add, List.eraseIdx_eq_take_drop_succ, fl_append, ← HNEWS.out, show i * 2 + news.length = m * 2 by rw [s1.out]; omega]
    congr 2
    rw [← fl_take l i, ← HCS.out.2, List.take_take, Nat.min_eq_left (by omega)]
  have HB1 := Aside0.mk hB1'
  have HG1 := Aside0.mk hG1
  have HW1 := Aside0.mk hW1
  clear hB1 hB1' hG1 hW1
  go_region_law (refine step_append_room rfl (.tmp 22) (.tmp 25) 69 rfl 82 i0 2 hu69 hi0 hsz0 g 0 i c (by simp [Act.eval, Act.put]) A (l.length - (i + 1)) (c - (i + 1)) news (by simp [Act.eval, Act.put]) s1.out hsrc.out s2.out (by omega) s3.out ?_; rw [HW1.out, hm])
  go_upto_region 6 with (fail)
  have hlen1 : ∀ k, k < c * 2 → (W1.cell? ⟨g, k, none⟩).isSome = true ∧ W1.frozen? ⟨g, k, none⟩ = false := fun k hk => by
    refine ⟨?_, blk_frozen HB1.out k⟩
    rw [blk_cell HB1.out k]
    have hs : k < (fl (l.eraseIdx i) ++ cur.toList.drop (m * 2)).toArray.size := by
      rw [List.size_toArray, List.length_append, fl_len, List.length_drop, HCL.out, List.length_eraseIdx, if_pos hi]; omega
    rw [Array.getElem?_eq_getElem hs]; rfl
  have hst := run_storeCells_cells (P := Try.prog) g (m * 2) [.int .i64 0, .int .i64 0] 0 W1 (fun j hj => (hlen1 (m * 2 + 0 + j) (by simp at hj; omega)).1) (fun j hj => (hlen1 (m * 2 + 0 + j) (by simp at hj; omega)).2) (fun v hv => by simp at hv; subst hv; rfl)
  simp only [Nat.add_zero] at hst
  have hv : ∀ W, (zeroValue 82).run Try.prog W = .ok (.agg #[.int .i64 0, .int .i64 0]) W := fun W => by simp [zeroValue, typeInfo, hi0, hz0]
  have hzc : (Builtin.zeroCells (Value.agg #[.int .i64 0, .int .i64 0]).cells 1).toList = [.int .i64 0, .int .i64 0] := by first | decide | (simp [Builtin.zeroCells, Value.cells]; done) | (simp [Builtin.zeroCells, Value.cells]; decide) | kernel_rfl
  have hcl : ∀ ty, (Builtin.clear_ #[69] ty #[.slice (some ⟨g, m * 2, none⟩) 1 (c - m)]).run Try.prog W1 = .ok (.tuple #[]) (W1.setCells g (m * 2) [.int .i64 0, .int .i64 0]) := fun ty => by
    simp [Builtin.clear_, run_underlying hu69, hv, hzc, hst]
  have hcm : ¬ (c = m) := by omega
  have h1e : l.length - m = 1 := by omega
  have hlm : m ≤ l.length := by omega
  have hlmi : (m : Int) ≤ (l.length : Int) := by omega
  have hlc : l.length ≤ c := hc1
  clear hst hlen1 hv hzc
  go_wp2
  go_ret
  have hle : (l.eraseIdx i).length = m := by rw [List.length_eraseIdx, if_pos hi]; omega
  have hm1 : l.length - 1 = m := by omega
  have hfl : (fl (l.eraseIdx i)).length = m * 2 := by rw [fl_len, hle]
  have hd9 : (cur.toList.drop (m * 2)).length = c * 2 - m * 2 := by rw [List.length_drop, HCL.out]
  have hB2 := setCells_blk_ [.int .i64 0, .int .i64 0] (m * 2) W1 _ HB1.out (by rw [List.size_toArray, List.length_append, hfl, hd9]; simp; omega)
  rw [hm1]
  refine ⟨rfl, ?_, gs_setCells_ g _ _ _ _ HG1.out⟩
  have hR := R82_make (l := l.eraseIdx i) (c := c) hB2 HB.out (by omega) hc2 (by
    simp only [List.size_toArray, List.length_append, List.length_take, List.length_drop, List.length_cons, List.length_nil, hfl, hd9]
    omega) (by
    rw [hle]
    simp only [List.append_assoc]
    rw [List.take_append_of_le_length (by rw [List.length_take, List.length_append, hfl]; omega), List.take_take, Nat.min_self, List.take_append_of_le_length (by omega), List.take_of_length_le (by omega)])
  rw [hle] at hR
  exact hR
def putF (data : List Int) (at_ : Nat) (gd : List Int) : List Int :=
  (data ++ List.replicate (at_ + gd.length - data.length) 0).take at_ ++ gd ++ (data ++ List.replicate (at_ + gd.length - data.length) 0).drop (at_ + gd.length)
def en1F (en at_ : Int) (gd : List Int) : Int := if gd.length = 0 ∧ (en < 0 ∨ at_ < en) then at_ else en
def moreF (at_ cnt : Int) (gd : List Int) : List S82 := if 0 < gd.length ∧ (gd.length : Int) < cnt then [⟨at_ + gd.length, cnt - gd.length⟩] else []
def onB (en : Int) (out : List S82) : Bool := decide (0 ≤ en) && !(out.any fun x => decide (x.f0 < en))
abbrev FSt := List S82 × Int × Int × List Int
abbrev FNx := Int × List S82 × Bool × List Int
def gotF (st : FSt) (at_ cnt : Int) (gd : List Int) : FSt × FNx :=
  match st.1.findIdx? (fun x => at_ == x.f0 && cnt == x.f1) with
  | none => (st, (7, [], false, []))
  | some i =>
    if cnt < (gd.length : Int) then (st, (1, [], false, []))
    else
      ((onL (en1F st.2.2.1 at_ gd) 6 (st.1.eraseIdx i ++ moreF at_ cnt gd) st.2.1 (moreF at_ cnt gd)).1,
        (onL (en1F st.2.2.1 at_ gd) 6 (st.1.eraseIdx i ++ moreF at_ cnt gd) st.2.1 (moreF at_ cnt gd)).2.1, en1F st.2.2.1 at_ gd, putF st.2.2.2 at_.toNat gd,
        0, (onL (en1F st.2.2.1 at_ gd) 6 (st.1.eraseIdx i ++ moreF at_ cnt gd) st.2.1 (moreF at_ cnt gd)).2.2,
        onB (en1F st.2.2.1 at_ gd) (onL (en1F st.2.2.1 at_ gd) 6 (st.1.eraseIdx i ++ moreF at_ cnt gd) st.2.1 (moreF at_ cnt gd)).1,
        if onB (en1F st.2.2.1 at_ gd) (onL (en1F st.2.2.1 at_ gd) 6 (st.1.eraseIdx i ++ moreF at_ cnt gd) st.2.1 (moreF at_ cnt gd)).1 = true then (putF st.2.2.2 at_.toNat gd).take (mn (en1F st.2.2.1 at_ gd) ((putF st.2.2.2 at_.toNat gd).length : Int)).toNat else []) |> fun p => ((p.1, p.2.1, p.2.2.1, p.2.2.2.1), p.2.2.2.2)
theorem idx_loop (l : List S82) (a c : Int) (hl : l.length ≤ 100000) : ∀ (m i k : Nat), i + m = l.length → m < k → api_Want_47.l0 k l (l.length : Int) (i : Int) a c = some (match (l.drop i).findIdx? (fun x => a == x.f0 && c == x.f1) with | some j => ((i + j : Nat) : Int) | none => -1) := by
  intro m
  induction m with
  | zero =>
    intro i k hi hk
    obtain ⟨k, rfl⟩ : ∃ q, k = q + 1 := ⟨k - 1, by omega⟩
    rw [api_Want_47.l0, if_neg (by omega), List.drop_of_length_le (by omega)]
    rfl
  | succ m ih =>
    intro i k hi hk
    obtain ⟨k, rfl⟩ : ∃ q, k = q + 1 := ⟨k - 1, by omega⟩
    have hlt : i < l.length := by omega
    have hr : rd_T82 l (i : Int) = l[i] := by rw [rd_T82, Int.toNat_natCast, List.getD_eq_getElem?_getD, List.getElem?_eq_getElem hlt]; rfl
    rw [api_Want_47.l0, if_pos (by omega), if_pos (by omega), if_pos (by omega), hr, List.drop_eq_getElem_cons hlt, List.findIdx?_cons]
    by_cases h : (a == l[i].f0 && c == l[i].f1) = true
    · rw [if_pos h, if_pos h]; rfl
    · rw [if_neg h, if_neg h, show wrap64 ((i : Int) + 1) = ((i + 1 : Nat) : Int) by unfold wrap64; omega, ih (i + 1) k (by omega) (by omega)]
      cases (l.drop (i + 1)).findIdx? (fun x => a == x.f0 && c == x.f1) with
      | none => rfl
      | some j => simp only [Option.map_some]; congr 2; omega
theorem idx_is (l : List S82) (a c : Int) (hl : l.length ≤ 100000) : api_Want_47.f (l.length + 1) l a c = some (match l.findIdx? (fun x => a == x.f0 && c == x.f1) with | some j => (j : Int) | none => -1) := by
  have h := idx_loop l a c hl l.length 0 (l.length + 1) (by omega) (by omega)
  rw [List.drop_zero] at h
  unfold api_Want_47.f
  rw [show (0 : Int) = ((0 : Nat) : Int) from rfl, h]
  congr 1
  cases l.findIdx? (fun x => a == x.f0 && c == x.f1) with
  | none => rfl
  | some j => simp only [Nat.zero_add]
section
variable {w w1 : World} {base fb nb : Nat} {vO vD vW vN : Value} {out wants : List S82} {front en code : Int} {data nd : List Int} {dn : Bool}
/-- other bytes in the fetcher's row -/
theorem FN.modD (h : FN w base fb nb vO vD vW vN out front en data code wants dn nd) {v1 : Value} {data1 : List Int} (r1 : (Kd.int .u8).R 5 w1 base (fun _ => True) v1 data1) (hg : w.grownBy w1 vD.ownBlock) (hat : v1.ownBlock = vD.ownBlock ∨ ∃ b, v1.ownBlock = some b ∧ w.heap.size ≤ b) :
    w1.heap[fb]? = w.heap[fb]? ∧ w1.heap[nb]? = w.heap[nb]? ∧ k82.R 82 w1 base (fun _ => True) vO out ∧ k82.R 82 w1 base (fun _ => True) vW wants ∧ (Kd.int .u8).R 5 w1 base (fun _ => True) vN nd ∧ (∀ k, v1.ownBlock = some k → vN.ownBlock = some k → False) := by
  have tO := Kd.R_typed h.rD
  have nF : some fb ≠ vD.ownBlock := fun e => ne_typed_ (tO fb e.symm) ⟨_, h.hF⟩ (by decide) rfl
  have nN : some nb ≠ vD.ownBlock := fun e => ne_typed_ (tO nb e.symm) ⟨_, h.hN⟩ (by decide) rfl
  have kO : ∀ k, vO.ownBlock = some k → w1.heap[k]? = w.heap[k]? := fun k e => hg.block k (Kd.R_lt h.rO k e) (fun e' => ne_typed_ (tO k e'.symm) (Kd.R_typed h.rO k e) (by decide) rfl)
  have kW : ∀ k, vW.ownBlock = some k → w1.heap[k]? = w.heap[k]? := fun k e => hg.block k (Kd.R_lt h.rW k e) (fun e' => ne_typed_ (tO k e'.symm) (Kd.R_typed h.rW k e) (by decide) rfl)
  have kN : ∀ k, vN.ownBlock = some k → w1.heap[k]? = w.heap[k]? := fun k e => hg.block k (Kd.R_lt h.rN k e) (fun e' => h.dn' k e'.symm e)
  refine ⟨hg.block fb (blk_lt h.hF) nF, hg.block nb (blk_lt h.hN) nN, R82_keep h.rO kO, R82_keep h.rW kW, R5_keep h.rN kN, ?_⟩
  intro k e e'
  rcases hat with hat | ⟨b, hb, hle⟩
  · exact h.dn' k (hat ▸ e) e'
  · rw [hb] at e
    injection e with e
    have := Kd.R_lt h.rN k e'
    omega
theorem FN.appD (h : FN w base fb nb vO vD vW vN out front en data code wants dn nd) {v1 : Value} {data1 : List Int} (r1 : (Kd.int .u8).R 5 w1 base (fun _ => True) v1 data1) (hg : w.grownBy w1 vD.ownBlock) (hat : v1.ownBlock = vD.ownBlock ∨ ∃ b, v1.ownBlock = some b ∧ w.heap.size ≤ b) :
    FN (w1.setCell ⟨fb, 3, none⟩ v1) base fb nb vO v1 vW vN out front en data1 code wants dn nd := by
  obtain ⟨h1, h2, h3, h4, h5, h6⟩ := h.modD r1 hg hat
  have hF1 := h1.trans h.hF
  exact ⟨blk_put hF1 3 v1 rfl, (set_keep_ _ _ _ _ nb (blk_ne h.hN h.hF (by decide))).trans (h2.trans h.hN), Kd.R_set h3 hF1 (by decide) 3 v1, Kd.R_set h4 hF1 (by decide) 3 v1, Kd.R_set r1 hF1 (by decide) 3 v1, Kd.R_set h5 hF1 (by decide) 3 v1, h.ow, h6, h.bf, h.bn⟩
theorem FN.copD (h : FN w base fb nb vO vD vW vN out front en data code wants dn nd) {data1 : List Int} (r1 : (Kd.int .u8).R 5 w1 base (fun _ => True) vD data1) (hg : w.grownBy w1 vD.ownBlock) : FN w1 base fb nb vO vD vW vN out front en data1 code wants dn nd := by
  obtain ⟨h1, h2, h3, h4, h5, h6⟩ := h.modD r1 hg (.inl rfl)
  exact ⟨h1.trans h.hF, h2.trans h.hN, h3, h4, r1, h5, h.ow, h6, h.bf, h.bn⟩
theorem FN.setEnd (h : FN w base fb nb vO vD vW vN out front en data code wants dn nd) (f : Int) : FN (w.setCell ⟨fb, 2, none⟩ (.int .i64 f)) base fb nb vO vD vW vN out front f data code wants dn nd :=
  ⟨blk_put h.hF 2 _ rfl, (set_keep_ _ _ _ _ nb (blk_ne h.hN h.hF (by decide))).trans h.hN, Kd.R_set h.rO h.hF (by decide) 2 _, Kd.R_set h.rW h.hF (by decide) 2 _, Kd.R_set h.rD h.hF (by decide) 2 _, Kd.R_set h.rN h.hF (by decide) 2 _, h.ow, h.dn', h.bf, h.bn⟩
end
theorem grown_of_gs {w w1 : World} {g : Nat} (h : Gs (fun k => k = g) w w1) : w.grownBy w1 (some g) := ⟨h.os, h.tape, h.output, h.size, fun k hk hne => h.block k hk (fun e => hne (by rw [e]))⟩
theorem R5_over {base g c n : Nat} : ∀ (gd : List Int) (an : Nat) (w : World) (d : List Int), (Kd.int .u8).R 5 w base (fun _ => True) (.slice (some ⟨g, 0, none⟩) n c) d → an + gd.length ≤ d.length → (Kd.int .u8).R 5 (w.setCells g an (gd.map (Value.int .u8))) base (fun _ => True) (.slice (some ⟨g, 0, none⟩) n c) (d.take an ++ gd ++ d.drop (an + gd.length))
  | [], an, w, d, h, _ => by
    rw [List.length_nil, Nat.add_zero, List.append_nil, List.take_append_drop]
    exact h
  | x :: r, an, w, d, h, hl => by
    have hlt : an < d.length := by simp only [List.length_cons] at hl; omega
    have h1 := (Kd.R_putg h (an : Int) x).1
    rw [Int.toNat_natCast] at h1
    have h2 := R5_over r (an + 1) _ _ h1 (by rw [List.length_set]; simp only [List.length_cons] at hl; omega)
    have e1 : d.set an x = d.take an ++ x :: d.drop (an + 1) := by rw [List.set_eq_take_append_cons_drop, if_pos hlt]
    have lt : (d.take an).length = an := by rw [List.length_take]; omega
    have e2 : (d.set an x).take (an + 1) = d.take an ++ [x] := by
      rw [e1, List.take_append, lt, List.take_of_length_le (by omega), show an + 1 - an = 1 by omega]; rfl
    have e3 : (d.set an x).drop (an + 1 + r.length) = d.drop (an + (x :: r).length) := by
      rw [e1, List.drop_append, lt, List.drop_of_length_le (by omega), List.nil_append, show an + 1 + r.length - an = r.length + 1 by omega, List.drop_succ_cons, List.drop_drop]
      congr 1
      simp only [List.length_cons]; omega
    rw [e2, e3] at h2
    rw [List.map_cons, World.setCells]
    simpa using h2
/-- the fetcher alone -/
structure FO (w : World) (base fb : Nat) (vO vD : Value) (st : FSt) : Prop where
  hF : w.heap[fb]? = some (.cells #[vO, .int .i64 st.2.1, .int .i64 st.2.2.1, vD] 85 (0, 0))
  rO : k82.R 82 w base (fun _ => True) vO st.1
  rD : (Kd.int .u8).R 5 w base (fun _ => True) vD st.2.2.2
  bf : base ≤ fb
theorem FO.below {w w1 : World} {base fb : Nat} {vO vD : Value} {st : FSt} (h : FO w base fb vO vD st) (hb : Below w.heap.size w w1) : FO w1 base fb vO vD st := ⟨blk_below h.hF hb, Kd.R_below h.rO hb, Kd.R_below h.rD hb, h.bf⟩
theorem FO.with {w : World} {base fb nb : Nat} {vO vD : Value} {st : FSt} (h : FO w base fb vO vD st) (hN : w.heap[nb]? = some (.cells #[.int .i64 0, .slice none 0 0, .bool false, .slice none 0 0] 71 (0, 0))) (bn : base ≤ nb) : FN w base fb nb vO vD (.slice none 0 0) (.slice none 0 0) st.1 st.2.1 st.2.2.1 st.2.2.2 0 [] false [] :=
  ⟨h.hF, hN, h.rO, Kd.R_nil _ _ _ _ _, h.rD, Kd.R_nil _ _ _ _ _, (fun _ _ e => by cases e), (fun _ _ e => by cases e), h.bf, bn⟩
theorem FN.fo {w : World} {base fb nb : Nat} {vO vD vW vN : Value} {out wants : List S82} {front en code : Int} {data nd : List Int} {dn : Bool} (h : FN w base fb nb vO vD vW vN out front en data code wants dn nd) : FO w base fb vO vD (out, front, en, data) := ⟨h.hF, h.rO, h.rD, h.bf⟩
/-- what got may change -/
def MG (fb : Nat) (vO vD : Value) : Nat → Prop := fun k => k = fb ∨ vO.ownBlock = some k ∨ vD.ownBlock = some k
/-- what is told behind got -/
def GotPost (w : World) (base fb : Nat) (vO vD : Value) (r : FSt × FNx) (e : Ending) (w' : World) : Prop :=
  ∃ vO' vD' vW vN, e = .returned (.agg #[.int .i64 r.2.1, vW, .bool r.2.2.2.1, vN]) ∧ FO w' base fb vO' vD' r.1 ∧ k82.R 82 w' base (fun _ => True) vW r.2.2.1 ∧ (Kd.int .u8).R 5 w' base (fun _ => True) vN r.2.2.2.2 ∧ (∀ k, vO'.ownBlock = some k → vW.ownBlock = some k → False) ∧ (∀ k, vD'.ownBlock = some k → vN.ownBlock = some k → False) ∧ Nx w vO vO' ∧ Nx w vD vD' ∧ Nx w (.slice none 0 0) vW ∧ Nx w (.slice none 0 0) vN ∧ Gs (MG fb vO vD) w w'
theorem FO.setN {w : World} {base fb nb : Nat} {vO vD : Value} {st : FSt} (h : FO w base fb vO vD st) {cells : Array Value} (hN : w.heap[nb]? = some (.cells cells 71 (0, 0))) (j : Nat) (u : Value) : FO (w.setCell ⟨nb, j, none⟩ u) base fb vO vD st :=
  ⟨(set_keep_ _ _ _ _ fb (blk_ne h.hF hN (by decide))).trans h.hF, Kd.R_set h.rO hN (by decide) j u, Kd.R_set h.rD hN (by decide) j u, h.bf⟩
def put4 (W : World) (g : Nat) (v0 v1 v2 v3 : Value) : World := (((W.setCell ⟨g, 0, none⟩ v0).setCell ⟨g, 1, none⟩ v1).setCell ⟨g, 2, none⟩ v2).setCell ⟨g, 3, none⟩ v3
theorem put4_eq (W : World) (g : Nat) (v0 v1 v2 v3 : Value) : (((W.setCell ⟨g, 0, none⟩ v0).setCell ⟨g, 1, none⟩ v1).setCell ⟨g, 2, none⟩ v2).setCell ⟨g, 3, none⟩ v3 = put4 W g v0 v1 v2 v3 := rfl
theorem put4_all {w W : World} {base fb g : Nat} {vO vD : Value} {st : FSt} {M : Nat → Prop} {c0 c1 c2 c3 : Value} (hF : FO W base fb vO vD st) (hG : Gs M w W) (hM : M g ∨ w.heap.size ≤ g) (h : W.heap[g]? = some (.cells #[c0, c1, c2, c3] 71 (0, 0))) (v0 v1 v2 v3 : Value) : (put4 W g v0 v1 v2 v3).heap[g]? = some (.cells #[v0, v1, v2, v3] 71 (0, 0)) ∧ FO (put4 W g v0 v1 v2 v3) base fb vO vD st ∧ Gs M w (put4 W g v0 v1 v2 v3) := by
  unfold put4
  have h0 : (W.setCell ⟨g, 0, none⟩ v0).heap[g]? = some (.cells #[v0, c1, c2, c3] 71 (0, 0)) := blk_put h 0 v0 rfl
  have h1 : ((W.setCell ⟨g, 0, none⟩ v0).setCell ⟨g, 1, none⟩ v1).heap[g]? = some (.cells #[v0, v1, c2, c3] 71 (0, 0)) := blk_put h0 1 v1 rfl
  have h2 : (((W.setCell ⟨g, 0, none⟩ v0).setCell ⟨g, 1, none⟩ v1).setCell ⟨g, 2, none⟩ v2).heap[g]? = some (.cells #[v0, v1, v2, c3] 71 (0, 0)) := blk_put h1 2 v2 rfl
  have h3 : ((((W.setCell ⟨g, 0, none⟩ v0).setCell ⟨g, 1, none⟩ v1).setCell ⟨g, 2, none⟩ v2).setCell ⟨g, 3, none⟩ v3).heap[g]? = some (.cells #[v0, v1, v2, v3] 71 (0, 0)) := blk_put h2 3 v3 rfl
  exact ⟨h3, (((hF.setN h 0 v0).setN h0 1 v1).setN h1 2 v2).setN h2 3 v3, (((hG.set hM 0 v0).set hM 1 v1).set hM 2 v2).set hM 3 v3⟩
theorem put4_R {α : Type} {d : Kd α} {e base g : Nat} {ok : Nat → Prop} {W : World} {v : Value} {xs : List α} {c0 c1 c2 c3 : Value} (hR : d.R e W base ok v xs) (h : W.heap[g]? = some (.cells #[c0, c1, c2, c3] 71 (0, 0))) (ht : ∀ q, q ∈ e :: d.E → q ≠ 71) (v0 v1 v2 v3 : Value) : d.R e (put4 W g v0 v1 v2 v3) base ok v xs := by
  unfold put4
  have h0 : (W.setCell ⟨g, 0, none⟩ v0).heap[g]? = some (.cells #[v0, c1, c2, c3] 71 (0, 0)) := blk_put h 0 v0 rfl
  have h1 : ((W.setCell ⟨g, 0, none⟩ v0).setCell ⟨g, 1, none⟩ v1).heap[g]? = some (.cells #[v0, v1, c2, c3] 71 (0, 0)) := blk_put h0 1 v1 rfl
  have h2 : (((W.setCell ⟨g, 0, none⟩ v0).setCell ⟨g, 1, none⟩ v1).setCell ⟨g, 2, none⟩ v2).heap[g]? = some (.cells #[v0, v1, v2, c3] 71 (0, 0)) := blk_put h1 2 v2 rfl
  exact Kd.R_set (Kd.R_set (Kd.R_set (Kd.R_set hR h ht 0 v0) h0 ht 1 v1) h1 ht 2 v2) h2 ht 3 v3
theorem MA_in {w : World} {fb nb : Nat} {vO vO2 vW2 vD : Value} (hO : Nx w vO vO2) (hW : Nx w (.slice none 0 0) vW2) (hn : w.heap.size ≤ nb) : ∀ k, MA fb nb vO2 vW2 k → MG fb vO vD k ∨ w.heap.size ≤ k := by
  intro k hk
  rcases hk with h9 | h9 | h9 | h9
  · exact .inl (.inl h9)
  · exact .inr (by omega)
  · rcases hO with h8 | h8 | ⟨q, h8, h7⟩
    · exact .inl (.inr (.inl (h8.symm.trans h9)))
    · rw [h8] at h9; cases h9
    · rw [h8] at h9; injection h9 with h9; exact .inr (by omega)
  · rcases hW with h8 | h8 | ⟨q, h8, h7⟩
    · rw [h8] at h9; cases h9
    · rw [h8] at h9; cases h9
    · rw [h8] at h9; injection h9 with h9; exact .inr (by omega)
theorem step_run_ {P : Program} {ops : Array Oper} {o : Oper} {a : Act} {w w1 : World} {K : Act → World → Prop} {Q : Exit → Act → World → Prop} {E : Prop}
    (hg : o.guard = none) (s x : Operand) (t t' : TypeId) (hop : o.op = Op.call { callee := Callee.builtin Builtin.copy, args := #[s, x], argTypes := #[t, t'] }) (r : Value)
    (hrun : (Builtin.copy_ #[t, t'] o.type #[a.eval s, a.eval x]).run P w = .ok r w1) (hK : K (a.put o.dst r) w1) :
    if Region.wanted o (yielded ops a.tmps) = true then Oper.wp P o a w K Q else E := by
  have hw : Region.wanted o (yielded ops a.tmps) = true := by simp [Region.wanted, hg]
  rw [if_pos hw]
  unfold Oper.wp
  simp [execOp, hop, resolve, invoke, builtin, hrun, Result.andThen]
  exact hK
set_option maxHeartbeats 8000000 in
set_option maxRecDepth 100000 in
theorem got_calls {w0 w : World} {fb : Nat} {vO vD : Value} {st : FSt} (h : FO w w0.heap.size fb vO vD st) (hb0 : Below w0.heap.size w0 w) (at_ cnt : Int) (AG : Option Addr) (cG : Nat) (gd : List Int) (hC : Kd.C (Kd.int .u8) w0 AG gd.length gd) (hcG : gd.length ≤ cG) (hl1 : st.1.length ≤ 10000) (hl2 : st.2.2.2.length ≤ 20000) (hg : gd.length ≤ 10000) (hfr : 0 ≤ st.2.1 ∧ st.2.1 ≤ 100000) (hen : -1 ≤ st.2.2.1 ∧ st.2.2.1 ≤ 100000) (hat : 0 ≤ at_ ∧ at_ ≤ 10000) (hcn : -10000 ≤ cnt ∧ cnt ≤ 10000) :
    Calls Try.prog 35 #[.pointer (some ⟨fb, 0, none⟩), .agg #[.int .i64 at_, .int .i64 cnt, .slice AG gd.length cG]] w (GotPost w w0.heap.size fb vO vD (gotF st at_ cnt gd)) := by
  have hu82 := Try.underlying82
  have hu85 := Try.underlying85
  have hu71 := Try.underlying71
  have hu65 := Try.underlying65
  obtain ⟨AO, cO, hvO⟩ := Kd.R_slice h.rO
  obtain ⟨AD, cD, hvD⟩ := Kd.R_slice h.rD
  subst hvO hvD
  obtain ⟨W3, hW3⟩ : ∃ y, ((w.alloc (Obj.cells #[.int .i64 at_, .int .i64 cnt, .slice AG gd.length cG] 65)).alloc (Obj.cells #[.int .i64 0, .slice none 0 0, .bool false, .slice none 0 0] 71)).alloc (Obj.cells #[.int .i64 at_, .int .i64 cnt] 82) = y := ⟨_, rfl⟩
  have hB3 : Below w.heap.size w W3 := by rw [← hW3]; exact below_alloc (below_alloc (below_alloc (Below.refl _ _) _) _) _
  have h2 := two_blocks_ w (Obj.cells #[.int .i64 at_, .int .i64 cnt, .slice AG gd.length cG] 65) (Obj.cells #[.int .i64 0, .slice none 0 0, .bool false, .slice none 0 0] 71)
  have hG3 : W3.heap[w.heap.size]? = some (.cells #[.int .i64 at_, .int .i64 cnt, .slice AG gd.length cG] 65 (0, 0)) := by rw [← hW3]; exact blk_alloc h2.1 _
  have hN3 : W3.heap[w.heap.size + 1]? = some (.cells #[.int .i64 0, .slice none 0 0, .bool false, .slice none 0 0] 71 (0, 0)) := by rw [← hW3]; exact blk_alloc h2.2 _
  have hT3 : W3.heap[w.heap.size + 1 + 1]? = some (.cells #[.int .i64 at_, .int .i64 cnt] 82 (0, 0)) := by
    rw [← hW3]
    have h9 := blk_new ((w.alloc (Obj.cells #[.int .i64 at_, .int .i64 cnt, .slice AG gd.length cG] 65)).alloc (Obj.cells #[.int .i64 0, .slice none 0 0, .bool false, .slice none 0 0] 71)) (Obj.cells #[.int .i64 at_, .int .i64 cnt] 82)
    rwa [show ((w.alloc (Obj.cells #[.int .i64 at_, .int .i64 cnt, .slice AG gd.length cG] 65)).alloc (Obj.cells #[.int .i64 0, .slice none 0 0, .bool false, .slice none 0 0] 71)).heap.size = w.heap.size + 1 + 1 by simp] at h9
  have HFN := Aside0.mk ((h.below hB3).with hN3 (Nat.le_trans hb0.size (by omega)))
  have H := Aside0.mk h
  have HB3 := Aside0.mk hB3
  have HG3 := Aside0.mk hG3
  have HT3 := Aside0.mk hT3
  have HBW := Aside0.mk hb0
  have HC := Aside0.mk hC
  have HLIM := Aside0.mk (And.intro hl1 (And.intro hl2 (And.intro hg (And.intro hfr (And.intro hen (And.intro hat (And.intro hcn hcG)))))))
  have HW3 := Aside0.mk hW3
  clear h hB3 h2 hG3 hN3 hT3 hb0 hC hW3 hl1 hl2 hg hfr hen hat hcn hcG
  go_enter Try.func35, Try.ntmps35
  go_upto_region 2 with (fail)
  rw [HW3.out]
  clear HW3
  obtain ⟨r, hr⟩ : ∃ r : Int, (match st.1.findIdx? (fun x => at_ == x.f0 && cnt == x.f1) with | some j => (j : Int) | none => -1) = r := ⟨_, rfl⟩
  have HIX : Aside0 (api_Want_47.f (st.1.length + 1) st.1 at_ cnt = some r) := ⟨by rw [← hr]; exact idx_is st.1 at_ cnt (by have := HLIM.out.1; omega)⟩
  have HRI := Aside0.mk hr
  clear hr
  have f0 : W3.cell? ⟨fb, 0, none⟩ = some (.slice AO st.1.length cO) := (blk_cell HFN.out.hF 0).trans rfl
  have t0 : W3.cell? ⟨w.heap.size + 1 + 1, 0, none⟩ = some (.int .i64 at_) := (blk_cell HT3.out 0).trans rfl
  have t1 : W3.cell? ⟨w.heap.size + 1 + 1, 1, none⟩ = some (.int .i64 cnt) := (blk_cell HT3.out 1).trans rfl
  go_region_held3 (fun w' => w'.cell? ⟨fb, 0, none⟩ = some (.slice AO st.1.length cO) ∧ w'.cell? ⟨w.heap.size + 1 + 1, 0, none⟩ = some (.int .i64 at_) ∧ w'.cell? ⟨w.heap.size + 1 + 1, 1, none⟩ = some (.int .i64 cnt)) (first | exact ⟨r0, r1, r2⟩ | go_keep) (first | (go_at_call 47; refine (api_Want_47.calls (st.1.length + 1) AO cO st.1 at_ cnt r W3.drew (Kd.C_drew (Kd.R_reads' HFN.out.rO).2.2) (Kd.R_reads' HFN.out.rO).2.1 HIX.out).mono ?_; rintro e w4 ⟨rfl, hb0⟩; have hb4 : Below W3.heap.size W3 w4 := (Below.refl _ W3).drew.trans hb0; have HB4 := Aside0.mk hb4; have r0 := pw_cell_below hb4 f0; have r1 := pw_cell_below hb4 t0; have r2 := pw_cell_below hb4 t1; clear hb0 hb4))
  clear r0 r1 r2 f0 t0 t1
  have HF4 := Aside0.mk (HFN.out.below HB4.out)
  have HG4 := Aside0.mk (blk_below HG3.out HB4.out)
  have HBB4 := Aside0.mk (below_step HB3.out HB4.out)
  clear HFN HG3 HT3 HB3 HB4 HIX
  have g0 : w4.cell? ⟨w.heap.size, 0, none⟩ = some (.int .i64 at_) := (blk_cell HG4.out 0).trans rfl
  have g1 : w4.cell? ⟨w.heap.size, 1, none⟩ = some (.int .i64 cnt) := (blk_cell HG4.out 1).trans rfl
  have g2 : w4.cell? ⟨w.heap.size, 2, none⟩ = some (.slice AG gd.length cG) := (blk_cell HG4.out 2).trans rfl
  rcases hfi : st.1.findIdx? (fun x => at_ == x.f0 && cnt == x.f1) with _ | i
  · have hr1 : r = -1 := by rw [← HRI.out, hfi]
    have hgot : gotF st at_ cnt gd = (st, (7, [], false, [])) := by unfold gotF; rw [hfi]
    subst hr1
    have n0 : w4.cell? ⟨w.heap.size + 1, 0, none⟩ = some (.int .i64 0) := (blk_cell HF4.out.hN 0).trans rfl
    have n1 : w4.cell? ⟨w.heap.size + 1, 1, none⟩ = some (.slice none 0 0) := (blk_cell HF4.out.hN 1).trans rfl
    have n2 : w4.cell? ⟨w.heap.size + 1, 2, none⟩ = some (.bool false) := (blk_cell HF4.out.hN 2).trans rfl
    have n3 : w4.cell? ⟨w.heap.size + 1, 3, none⟩ = some (.slice none 0 0) := (blk_cell HF4.out.hN 3).trans rfl
    have y0 := blk_frozen HF4.out.hN 0
    have y1 := blk_frozen HF4.out.hN 1
    have y2 := blk_frozen HF4.out.hN 2
    have y3 := blk_frozen HF4.out.hN 3
    have HGOT := Aside0.mk hgot
    clear hgot hfi
    go_wp2
    rw [put4_eq]
    obtain ⟨hb, hfo, hgs⟩ := put4_all (M := MG fb (.slice AO st.1.length cO) (.slice AD st.2.2.2.length cD)) HF4.out.fo (Gs.of_below HBB4.out) (.inr (Nat.le_succ _)) HF4.out.hN (.int .i64 7) (.slice none 0 0) (.bool false) (.slice none 0 0)
    rw [HGOT.out]
    exact bodyPost_ret (results_cell_row rfl _ _ (w.heap.size + 1) 71 _ (0, 0) _ rfl hb Try.underlying71 rfl (by kernel_rfl)) rfl ⟨_, _, _, _, rfl, hfo, Kd.R_nil _ _ _ _ _, Kd.R_nil _ _ _ _ _, (fun _ _ e9 => by cases e9), (fun _ _ e9 => by cases e9), Nx.refl _ _, Nx.refl _ _, Nx.refl _ _, Nx.refl _ _, hgs⟩
  · have hr1 : r = (i : Int) := by rw [← HRI.out, hfi]
    subst hr1
    have hi : i < st.1.length := by
      rw [List.findIdx?_eq_some_iff_getElem] at hfi
      exact hfi.1
    have ki : decide ((i : Int) < 0) = false := decide_eq_false (by omega)
    by_cases c1 : cnt < (gd.length : Int)
    · have k1 : decide (cnt < (gd.length : Int)) = true := decide_eq_true c1
      have hgot : gotF st at_ cnt gd = (st, (1, [], false, [])) := by unfold gotF; rw [hfi]; dsimp only; rw [if_pos c1]
      have n0 : w4.cell? ⟨w.heap.size + 1, 0, none⟩ = some (.int .i64 0) := (blk_cell HF4.out.hN 0).trans rfl
      have n1 : w4.cell? ⟨w.heap.size + 1, 1, none⟩ = some (.slice none 0 0) := (blk_cell HF4.out.hN 1).trans rfl
      have n2 : w4.cell? ⟨w.heap.size + 1, 2, none⟩ = some (.bool false) := (blk_cell HF4.out.hN 2).trans rfl
      have n3 : w4.cell? ⟨w.heap.size + 1, 3, none⟩ = some (.slice none 0 0) := (blk_cell HF4.out.hN 3).trans rfl
      have y0 := blk_frozen HF4.out.hN 0
      have y1 := blk_frozen HF4.out.hN 1
      have y2 := blk_frozen HF4.out.hN 2
      have y3 := blk_frozen HF4.out.hN 3
      have HGOT := Aside0.mk hgot
      clear hgot hfi
      go_wp2
      rw [put4_eq]
      obtain ⟨hb, hfo, hgs⟩ := put4_all (M := MG fb (.slice AO st.1.length cO) (.slice AD st.2.2.2.length cD)) HF4.out.fo (Gs.of_below HBB4.out) (.inr (Nat.le_succ _)) HF4.out.hN (.int .i64 1) (.slice none 0 0) (.bool false) (.slice none 0 0)
      rw [HGOT.out]
      exact bodyPost_ret (results_cell_row rfl _ _ (w.heap.size + 1) 71 _ (0, 0) _ rfl hb Try.underlying71 rfl (by kernel_rfl)) rfl ⟨_, _, _, _, rfl, hfo, Kd.R_nil _ _ _ _ _, Kd.R_nil _ _ _ _ _, (fun _ _ e9 => by cases e9), (fun _ _ e9 => by cases e9), Nx.refl _ _, Nx.refl _ _, Nx.refl _ _, Nx.refl _ _, hgs⟩
    · have k1 : decide (cnt < (gd.length : Int)) = false := decide_eq_false c1
      obtain ⟨go, cap, hvO, hgo, hgl, _⟩ := Kd.R_form HF4.out.rO (by omega)
      injection hvO with e1 e2 e3
      subst e1 e3
      have HFI := Aside0.mk hfi
      have HI := Aside0.mk hi
      have C1 := Aside0.mk c1
      have hw1 : IntKind.i64.wrap ((i : Int) + 1) = (i : Int) + 1 := by have := HLIM.out.1; simp only [i64_w]; unfold wrap64; omega
      have f0 : w4.cell? ⟨fb, 0, none⟩ = some (.slice (some ⟨go, 0, none⟩) st.1.length cO) := (blk_cell HF4.out.hF 0).trans rfl
      have ngf : go ≠ fb := ne_typed_ (Kd.R_typed HF4.out.rO go rfl) ⟨_, HF4.out.hF⟩ (by decide)
      clear hfi hi c1 hgo hgl
      go_upto_region 8 with (first
        | ((with_reducible refine gate_callee (f := 48) rfl ?_); refine goesL_ _ rfl rfl Try.func48 (by kernel_rfl) rfl #[.slice (some ⟨go, 0, none⟩) st.1.length cO, .int .i64 (i : Int), .int .i64 ((i : Int) + 1)] rfl (by (try simp only [List.map_toArray, List.map_cons, List.map_nil]); first | done | rfl) ?_; refine (delete_calls HF4.out.rO HI.out (by have := HLIM.out.1; omega)).mono ?_; rintro e w5 ⟨rfl, hR5, hG5⟩; refine ⟨_, rfl, ?_⟩; have HR5 := Aside0.mk hR5; have HG5 := Aside0.mk hG5; have hF5 := (hG5.block fb (blk_lt HF4.out.hF) (fun e9 => ngf e9.symm)).trans HF4.out.hF; have HF5 := Aside0.mk hF5; have q0 : w5.cell? ⟨fb, 0, none⟩ = some (.slice (some ⟨go, 0, none⟩) st.1.length cO) := (blk_cell hF5 0).trans rfl; have y0 := blk_frozen hF5 0; clear hR5 hG5 hF5))
      obtain ⟨W6, hW6⟩ : ∃ y, w5.setCell ⟨fb, 0, none⟩ (.slice (some ⟨go, 0, none⟩) (st.1.length - 1) cO) = y := ⟨_, rfl⟩
      have hg5 := grown_of_gs HG5.out
      have ngg : w.heap.size ≠ go := fun e9 => ne_typed_ ⟨_, HG4.out⟩ (Kd.R_typed HF4.out.rO go rfl) (by decide) e9
      have ngf2 : w.heap.size ≠ fb := blk_ne HG4.out HF4.out.hF (by decide)
      have HF6 : Aside0 (FN W6 w0.heap.size fb (w.heap.size + 1) (.slice (some ⟨go, 0, none⟩) (st.1.length - 1) cO) (.slice AD st.2.2.2.length cD) (.slice none 0 0) (.slice none 0 0) (st.1.eraseIdx i) st.2.1 st.2.2.1 st.2.2.2 0 [] false []) := ⟨by rw [← hW6]; exact HF4.out.appO HR5.out hg5 (.inl rfl)⟩
      have HG6 : Aside0 (W6.heap[w.heap.size]? = some (.cells #[.int .i64 at_, .int .i64 cnt, .slice AG gd.length cG] 65 (0, 0))) := ⟨by rw [← hW6]; exact (set_keep_ _ _ _ _ _ ngf2).trans ((HG5.out.block w.heap.size (blk_lt HG4.out) ngg).trans HG4.out)⟩
      have HGS6 : Aside0 (Gs (MG fb (.slice (some ⟨go, 0, none⟩) st.1.length cO) (.slice AD st.2.2.2.length cD)) w W6) := ⟨by rw [← hW6]; exact ((Gs.of_below HBB4.out).trans (HG5.out.weak (fun k _ e9 => .inr (.inl (by rw [e9]; rfl))))).set (.inl (.inl rfl)) 0 _⟩
      rw [hW6]
      clear hW6 hg5 ngg ngf2 ngf q0 y0 f0 g0 g1 g2 HR5 HG5 HF5 HG4 HF4 HBB4 hw1 ki
      have g0 : W6.cell? ⟨w.heap.size, 0, none⟩ = some (.int .i64 at_) := (blk_cell HG6.out 0).trans rfl
      have g2 : W6.cell? ⟨w.heap.size, 2, none⟩ = some (.slice AG gd.length cG) := (blk_cell HG6.out 2).trans rfl
      have f3 : W6.cell? ⟨fb, 3, none⟩ = some (.slice AD st.2.2.2.length cD) := (blk_cell HF6.out.hF 3).trans rfl
      have hlim := HLIM.out
      have hw2 : IntKind.i64.wrap (at_ + (gd.length : Int)) = at_ + (gd.length : Int) := by simp only [i64_w]; unfold wrap64; omega
      obtain ⟨mo, hmo⟩ : ∃ mo : Int, at_ + (gd.length : Int) - (st.2.2.2.length : Int) = mo := ⟨_, rfl⟩
      have hw3 : IntKind.i64.wrap (at_ + (gd.length : Int) - (st.2.2.2.length : Int)) = mo := by rw [← hmo]; simp only [i64_w]; unfold wrap64; omega
      have HMO := Aside0.mk hmo
      clear hmo
      clear hlim
      go_upto_region 9 with (fail)
      go_quiet (fail)
      go_upto_if 57 with (fail)
      have hbn : Below W6.heap.size W6 (W6.drewN nq) := pw_below_drewN (Below.refl _ _) nq
      have HF7 := Aside0.mk (HF6.out.below hbn)
      have HG7 := Aside0.mk (blk_below HG6.out hbn)
      have HGS7 := Aside0.mk (HGS6.out.trans (Gs.of_below hbn))
      obtain ⟨W7, hW7⟩ : ∃ y, W6.drewN nq = y := ⟨_, rfl⟩
      rw [hW7] at HF7 HG7 HGS7 ⊢
      clear hbn hW7 g0 g2 f3 HF6 HG6 HGS6 hw2 hw3
      go_cut [] (fun wc => Aside0 (∃ vD', FN wc w0.heap.size fb (w.heap.size + 1) (.slice (some ⟨go, 0, none⟩) (st.1.length - 1) cO) vD' (.slice none 0 0) (.slice none 0 0) (st.1.eraseIdx i) st.2.1 st.2.2.1 (st.2.2.2 ++ List.replicate (at_.toNat + gd.length - st.2.2.2.length) 0) 0 [] false [] ∧ Nx w (.slice AD st.2.2.2.length cD) vD' ∧ Gs (fun k => MG fb (.slice (some ⟨go, 0, none⟩) st.1.length cO) (.slice AD st.2.2.2.length cD) k ∨ w.heap.size ≤ k) w wc ∧ wc.heap[w.heap.size]? = some (.cells #[.int .i64 at_, .int .i64 cnt, .slice AG gd.length cG] 65 (0, 0))))
      case first =>
        by_cases c2 : 0 < mo
        · have k2 : decide (0 < mo) = true := decide_eq_true c2
          have C2 := Aside0.mk c2
          have f3 : W7.cell? ⟨fb, 3, none⟩ = some (.slice AD st.2.2.2.length cD) := (blk_cell HF7.out.hF 3).trans rfl
          go_wp2_with (first
            | ((with_reducible refine gate_builtin (b := .append) (xs := #[.tmp 62, .tmp 63]) rfl ?_); at_builtin; refine Kd.R_append_zeros (Kd.int .u8) (w0 := W7) w0.heap.size rfl (.tmp 62) (.tmp 63) 57 3 5 (.int .u8 0) 1 rfl Try.underlying57 Try.underlying3 info5 rfl (by decide) (by omega) (.slice AD st.2.2.2.length cD) st.2.2.2 (0 : Int) mo (fun _ => True) rfl rfl rfl (fun _ _ => trivial) HF7.out.rD ?a0 (Below.refl _ _) ?aB ?aL ?_; (case a0 => have := C2.out; omega); (case aB => exact Nat.le_trans HF7.out.bf (Nat.le_of_lt (blk_lt HF7.out.hF))); (case aL => have := HLIM.out; have := HMO.out; omega); intro v8 w8 ho hb hg hat; obtain ⟨A8, c8, e8⟩ := Kd.R_slice ho; subst e8; have HO8 := Aside0.mk ho; have HG8 := Aside0.mk hg; have HA8 := Aside0.mk hat; have hF8 := ((HF7.out.modD ho hg hat).1).trans HF7.out.hF; have q3 : w8.cell? ⟨fb, 3, none⟩ = some (.slice AD st.2.2.2.length cD) := (blk_cell hF8 3).trans rfl; have y3 := blk_frozen hF8 3; clear ho hb hg hat hF8))
          have hmt : mo.toNat = at_.toNat + gd.length - st.2.2.2.length := by have := HLIM.out; have := HMO.out; omega
          have HF9 := Aside0.mk (HF7.out.appD HO8.out HG8.out HA8.out)
          have ngb : some w.heap.size ≠ (Value.slice AD st.2.2.2.length cD).ownBlock := fun e9 => ne_typed_ ⟨_, HG7.out⟩ (Kd.R_typed HF7.out.rD _ e9.symm) (by decide) rfl
          have HG9 := Aside0.mk ((set_keep_ w8 fb 3 (.slice A8 (st.2.2.2 ++ List.replicate mo.toNat 0).length c8) w.heap.size (blk_ne HG7.out HF7.out.hF (by decide))).trans ((HG8.out.block w.heap.size (blk_lt HG7.out) ngb).trans HG7.out))
          have HGS9 : Aside0 (Gs (fun k => MG fb (.slice (some ⟨go, 0, none⟩) st.1.length cO) (.slice AD st.2.2.2.length cD) k ∨ w.heap.size ≤ k) w (w8.setCell ⟨fb, 3, none⟩ (.slice A8 (st.2.2.2 ++ List.replicate mo.toNat 0).length c8))) := ⟨((HGS7.out.weak (fun k _ h9 => .inl h9)).trans (Gs.of_grown HG8.out (fun k e9 => .inl (.inr (.inr e9))))).set (.inl (.inl (.inl rfl))) 3 _⟩
          have HNX9 : Aside0 (Nx w (.slice AD st.2.2.2.length cD) (.slice A8 (st.2.2.2 ++ List.replicate mo.toNat 0).length c8)) := ⟨by
            rcases HA8.out with h9 | ⟨q, h9, h8⟩
            · exact .inl h9
            · exact .inr (.inr ⟨q, h9, Nat.le_trans HGS7.out.size h8⟩)⟩
          rw [hmt] at HF9 HG9 HGS9 HNX9
          have HMT := Aside0.mk hmt
          clear hmt ngb q3 y3 HO8 HG8 HA8
          go_meet
          case rel =>
            have hD : (st.2.2.2 ++ List.replicate (at_.toNat + gd.length - st.2.2.2.length) 0).length = st.2.2.2.length + mo.toNat := by rw [HMT.out, List.length_append, List.length_replicate]
            rw [hD] at HF9 HG9 HGS9 HNX9
            exact ⟨⟨_, HF9.out, HNX9.out, HGS9.out, HG9.out⟩⟩
        · have k2 : decide (0 < mo) = false := decide_eq_false c2
          have hz : at_.toNat + gd.length - st.2.2.2.length = 0 := by have := HLIM.out; have := HMO.out; omega
          have HZ := Aside0.mk hz
          have c3 : mo ≤ 0 := by omega
          clear hz
          go_wp2
          go_meet
          case rel =>
            refine ⟨⟨_, ?_, Nx.refl _ _, HGS7.out.weak (fun k _ h9 => .inl h9), HG7.out⟩⟩
            rw [HZ.out, List.replicate_zero, List.append_nil]
            exact HF7.out
      case rest =>
        obtain ⟨vD', hFN, hNX, hGS, hG⟩ := hcut.out
        obtain ⟨w9, hw9⟩ : ∃ y : World, y = wc := ⟨_, rfl⟩
        subst hw9
        obtain ⟨d1, hd1⟩ : ∃ y, st.2.2.2 ++ List.replicate (at_.toNat + gd.length - st.2.2.2.length) 0 = y := ⟨_, rfl⟩
        have hdl : at_.toNat + gd.length ≤ d1.length ∧ d1.length ≤ 40000 := by rw [← hd1, List.length_append, List.length_replicate]; have := HLIM.out; omega
        rw [hd1] at hFN
        have HD1 := Aside0.mk hd1
        have HDL := Aside0.mk hdl
        obtain ⟨A9, c9, e9⟩ := Kd.R_slice hFN.rD
        subst e9
        have HF9 := Aside0.mk hFN
        have HNX9 := Aside0.mk hNX
        have HGS9 := Aside0.mk hGS
        have HG9 := Aside0.mk hG
        have g0 : w9.cell? ⟨w.heap.size, 0, none⟩ = some (.int .i64 at_) := (blk_cell hG 0).trans rfl
        have g2 : w9.cell? ⟨w.heap.size, 2, none⟩ = some (.slice AG gd.length cG) := (blk_cell hG 2).trans rfl
        have f3 : w9.cell? ⟨fb, 3, none⟩ = some (.slice A9 d1.length c9) := (blk_cell hFN.hF 3).trans rfl
        obtain ⟨an, han⟩ : ∃ an : Nat, at_ = (an : Int) := ⟨at_.toNat, by have := HLIM.out; omega⟩
        subst han
        have hdl2 := HDL.out
        rw [Int.toNat_natCast] at hdl2
        have hmn : ((d1.length : Int) < (an : Int)) = False := eq_false (by omega)
        have hmn2 : an ≤ d1.length := by omega
        have info5sz : (Try.prog.info? 5).map (·.size) = some 1 := by kernel_rfl
        have HDL2 := Aside0.mk hdl2
        clear hcut hFN hNX hGS hG hd1 hdl
        go_upto_region 12 with (fail)
        go_cut [] (fun wc => Aside0 (FN wc w0.heap.size fb (w.heap.size + 1) (.slice (some ⟨go, 0, none⟩) (st.1.length - 1) cO) (.slice A9 d1.length c9) (.slice none 0 0) (.slice none 0 0) (st.1.eraseIdx i) st.2.1 st.2.2.1 (d1.take an ++ gd ++ d1.drop (an + gd.length)) 0 [] false [] ∧ Gs (fun k => MG fb (.slice (some ⟨go, 0, none⟩) st.1.length cO) (.slice AD st.2.2.2.length cD) k ∨ w.heap.size ≤ k) w wc ∧ wc.heap[w.heap.size]? = some (.cells #[.int .i64 (an : Int), .int .i64 cnt, .slice AG gd.length cG] 65 (0, 0))))
        case first =>
          have hrd := Kd.R_reads' HF9.out.rD
          have hcap : d1.length ≤ c9 := hrd.2.1
          by_cases hk0 : gd.length = 0
          · have hgn : gd = [] := List.eq_nil_of_length_eq_zero hk0
            have HK0 := Aside0.mk hk0
            have HGN := Aside0.mk hgn
            clear hk0 hgn hrd hdl2
            by_cases hce : c9 = an
            · go_region_held_law (fun w' => w'.cell? ⟨w.heap.size, 0, none⟩ = some (.int .i64 (an : Int)) ∧ w'.cell? ⟨w.heap.size, 2, none⟩ = some (.slice AG gd.length cG) ∧ w'.cell? ⟨fb, 3, none⟩ = some (.slice A9 d1.length c9)) (first | exact ⟨g0, g2, f3⟩ | go_keep) (refine step_run_ rfl (.tmp 79) (.tmp 81) 57 57 rfl (.int .i64 0) (run_copy_none w9.drew 57 57 _ 5 _ _ _ _ _ _ Try.underlying57 info5sz (by first | (rw [HK0.out]; simp) | simp)) ?_)
              go_wp2
              go_meet
              case rel =>
                refine ⟨⟨?_, HGS9.out.trans (Gs.of_below (below_drew (Below.refl _ _))), HG9.out⟩⟩
                rw [HGN.out, List.append_nil, show an + ([] : List Int).length = an from rfl, List.take_append_drop]
                exact HF9.out.below (below_drew (Below.refl _ _))
            · go_region_held_law (fun w' => w'.cell? ⟨w.heap.size, 0, none⟩ = some (.int .i64 (an : Int)) ∧ w'.cell? ⟨w.heap.size, 2, none⟩ = some (.slice AG gd.length cG) ∧ w'.cell? ⟨fb, 3, none⟩ = some (.slice A9 d1.length c9)) (first | exact ⟨g0, g2, f3⟩ | go_keep) (refine step_run_ rfl (.tmp 79) (.tmp 81) 57 57 rfl (.int .i64 0) (run_copy_none w9.drew 57 57 _ 5 _ _ _ _ _ _ Try.underlying57 info5sz (by first | (rw [HK0.out]; simp) | simp)) ?_)
              go_wp2
              go_meet
              case rel =>
                refine ⟨⟨?_, HGS9.out.trans (Gs.of_below (below_drew (Below.refl _ _))), HG9.out⟩⟩
                rw [HGN.out, List.append_nil, show an + ([] : List Int).length = an from rfl, List.take_append_drop]
                exact HF9.out.below (below_drew (Below.refl _ _))
          · have hkp : 0 < gd.length := by omega
            obtain ⟨gq, capq, hvq, hgq0, hgq1, _⟩ := Kd.R_form HF9.out.rD (by omega)
            injection hvq with e1 e2 e3
            subst e1 e3
            have hcne : ¬ (c9 = an) := by omega
            have hbw9 : Below w0.heap.size w0 w9 := HBW.out.trans (HGS9.out.below HBW.out.size (fun k hk => by
              rcases hk with (h9 | h9 | h9) | h9
              · rw [h9]; exact H.out.bf
              · exact Kd.R_base H.out.rO k h9
              · exact Kd.R_base H.out.rD k h9
              · exact Nat.le_trans HBW.out.size h9))
            obtain ⟨ad, hA, _⟩ := Kd.at_int (Kd.C_below HC.out hbw9) 0 (by omega) (by omega)
            subst hA
            have hsrc : ∀ j v, (gd.map (Value.int .u8))[j]? = some v → w9.drew.cell? (ad.add j) = some v := fun j v hj => by
              rw [List.getElem?_map] at hj
              obtain ⟨x, hx, rfl⟩ := Option.map_eq_some_iff.1 hj
              have hlt := (List.getElem?_eq_some_iff.1 hx).1
              obtain ⟨ad', he, hc⟩ := Kd.at_int (Kd.C_below HC.out hbw9) (j : Int) (by omega) (by omega)
              injection he with he
              subst he
              rw [Int.toNat_natCast] at hc
              rw [show rd gd (j : Int) = x by unfold rd; rw [Int.toNat_natCast, List.getD_eq_getElem?_getD, hx]; rfl] at hc
              exact hc
            have hdst : ∀ j, j < d1.length → (w9.cell? ⟨gq, j, none⟩).isSome = true ∧ w9.frozen? ⟨gq, j, none⟩ = false := fun j hj => by
              obtain ⟨h8, h9⟩ := Kd.R_celln 0 HF9.out.rD (j : Int) (by omega) (by omega)
              rw [Int.toNat_natCast] at h8 h9
              exact ⟨by rw [h8]; rfl, h9⟩
            have hml : (gd.map (Value.int .u8)).length = gd.length := List.length_map _
            have HRUN : Aside0 (∀ ty, (Builtin.copy_ #[57, 57] ty #[.slice (some ⟨gq, an, none⟩) (d1.length - an) (c9 - an), .slice (some ad) gd.length cG]).run Try.prog w9.drew = .ok (goInt ((gd.map (Value.int .u8)).length)) (w9.drew.setCells gq an (gd.map (Value.int .u8)))) := ⟨fun ty => run_copy_cells w9.drew 57 57 ty 5 gq an (d1.length - an) (c9 - an) ad gd.length cG (gd.map (Value.int .u8)) Try.underlying57 info5sz (by rw [hml]; exact (Nat.min_eq_left (by omega)).symm) hsrc (fun j hj => (hdst (an + j) (by omega)).1) (fun j hj => (hdst (an + j) (by omega)).2) (fun v hv => by obtain ⟨x, _, rfl⟩ := List.mem_map.1 hv; rfl)⟩
            obtain ⟨w10, hw10⟩ : ∃ y, w9.drew.setCells gq an (gd.map (Value.int .u8)) = y := ⟨_, rfl⟩
            have hr10 := R5_over gd an w9.drew d1 (Kd.R_drew HF9.out.rD) (by omega)
            have hg10 := gs_setCells_ gq (gd.map (Value.int .u8)) an w9 w9.drew (Gs.of_below (below_drew (Below.refl _ _)))
            have ngq : w.heap.size ≠ gq := fun e9 => ne_typed_ ⟨_, HG9.out⟩ (Kd.R_typed HF9.out.rD gq rfl) (by decide) e9
            rw [hw10] at hr10 hg10
            have HF10 := Aside0.mk (HF9.out.copD hr10 (grown_of_gs hg10))
            have HG10 := Aside0.mk ((hg10.block w.heap.size (blk_lt HG9.out) ngq).trans HG9.out)
            have HM10 : Aside0 (Gs (fun k => MG fb (.slice (some ⟨go, 0, none⟩) st.1.length cO) (.slice AD st.2.2.2.length cD) k ∨ w.heap.size ≤ k) w w10) := ⟨HGS9.out.trans (hg10.weak (fun k _ e9 => by
              rw [e9]
              rcases HNX9.out with h9 | h9 | ⟨q, h9, h8⟩
              · exact .inl (.inr (.inr (h9.symm.trans rfl)))
              · exact absurd h9 (by intro h7; cases h7)
              · injection h9 with h9
                exact .inr (by have h7 : gq = q := h9; show w.heap.size ≤ gq; omega)))⟩
            have HW10 := Aside0.mk hw10
            clear hrd hdl2 hk0 hgq0 hgq1 hbw9 hsrc hdst hml hw10 hr10 hg10 ngq
            have r0 : w10.cell? ⟨w.heap.size, 0, none⟩ = some (.int .i64 (an : Int)) := (blk_cell HG10.out 0).trans rfl
            have r2 : w10.cell? ⟨w.heap.size, 2, none⟩ = some (.slice (some ad) gd.length cG) := (blk_cell HG10.out 2).trans rfl
            have r3 : w10.cell? ⟨fb, 3, none⟩ = some (.slice (some ⟨gq, 0, none⟩) d1.length c9) := (blk_cell HF10.out.hF 3).trans rfl
            go_region_held_law (fun w' => w'.cell? ⟨w.heap.size, 0, none⟩ = some (.int .i64 (an : Int)) ∧ w'.cell? ⟨w.heap.size, 2, none⟩ = some (.slice (some ad) gd.length cG) ∧ w'.cell? ⟨fb, 3, none⟩ = some (.slice (some ⟨gq, 0, none⟩) d1.length c9)) (first | exact ⟨g0, g2, f3⟩ | exact ⟨r0, r2, r3⟩ | go_keep) (first | (refine step_run_ rfl (.tmp 79) (.tmp 81) 57 57 rfl _ (HRUN.out _) ?_; rw [HW10.out]))
            go_wp2
            go_meet
            case rel => exact ⟨⟨HF10.out, HM10.out, HG10.out⟩⟩
        case rest =>
          obtain ⟨hFN, hGS, hG⟩ := hcut.out
          obtain ⟨w11, hw11⟩ : ∃ y : World, y = wc := ⟨_, rfl⟩
          subst hw11
          obtain ⟨d2, hd2⟩ : ∃ y, d1.take an ++ gd ++ d1.drop (an + gd.length) = y := ⟨_, rfl⟩
          rw [hd2] at hFN
          have HD2 := Aside0.mk hd2
          have HF11 := Aside0.mk hFN
          have HGS11 := Aside0.mk hGS
          have g0' : w11.cell? ⟨w.heap.size, 0, none⟩ = some (.int .i64 (an : Int)) := (blk_cell hG 0).trans rfl
          have g1' : w11.cell? ⟨w.heap.size, 1, none⟩ = some (.int .i64 cnt) := (blk_cell hG 1).trans rfl
          have f2' : w11.cell? ⟨fb, 2, none⟩ = some (.int .i64 st.2.2.1) := (blk_cell hFN.hF 2).trans rfl
          have z2' := blk_frozen hFN.hF 2
          clear hcut hFN hGS hG hd2 g0 g2 f3 hdl2
          obtain ⟨en, hen⟩ : ∃ en, st.2.2.1 = en := ⟨_, rfl⟩
          rw [hen] at f2'
          have HEN := Aside0.mk hen
          clear hen
          go_upto_block 1 with (fail)
          go_cut [] (fun wc => Aside0 (∃ vO2 vW2, FN wc w0.heap.size fb (w.heap.size + 1) vO2 (.slice A9 d1.length c9) vW2 (.slice none 0 0) (st.1.eraseIdx i ++ moreF (an : Int) cnt gd) st.2.1 (en1F st.2.2.1 (an : Int) gd) d2 0 (moreF (an : Int) cnt gd) false [] ∧ Nx w (.slice (some ⟨go, 0, none⟩) st.1.length cO) vO2 ∧ Nx w (.slice none 0 0) vW2 ∧ Gs (fun k => MG fb (.slice (some ⟨go, 0, none⟩) st.1.length cO) (.slice AD st.2.2.2.length cD) k ∨ w.heap.size ≤ k) w wc))
          case first =>
            go_upto_region 13 with (fail)
            by_cases hk0 : gd.length = 0
            · obtain rfl : gd = [] := List.eq_nil_of_length_eq_zero hk0
              have HM0 : Aside0 (moreF (an : Int) cnt [] = []) := ⟨if_neg (fun h9 => absurd h9.1 (by decide))⟩
              clear hk0
              by_cases ce : en < 0
              · have HE0 : Aside0 (en1F st.2.2.1 (an : Int) [] = (an : Int)) := ⟨if_pos ⟨rfl, .inl (by rw [HEN.out]; exact ce)⟩⟩
                go_quiet (fail)
                go_wp2
                go_meet
                case rel =>
                  refine ⟨⟨.slice (some ⟨go, 0, none⟩) (st.1.length - 1) cO, .slice none 0 0, ?_, .inl rfl, .inl rfl, (HGS11.out.set (.inl (.inl (.inl rfl))) 2 _).trans (Gs.of_below (pw_below_drewN (Below.refl _ _) _))⟩⟩
                  rw [HM0.out, HE0.out, List.append_nil]
                  exact (HF11.out.setEnd (an : Int)).below (pw_below_drewN (Below.refl _ _) _)
              · have ce2 : 0 ≤ en := by omega
                by_cases ca : (an : Int) < en
                · have HE0 : Aside0 (en1F st.2.2.1 (an : Int) [] = (an : Int)) := ⟨if_pos ⟨rfl, .inr (by rw [HEN.out]; exact ca)⟩⟩
                  go_quiet (fail)
                  go_wp2
                  go_meet
                  case rel =>
                    refine ⟨⟨.slice (some ⟨go, 0, none⟩) (st.1.length - 1) cO, .slice none 0 0, ?_, .inl rfl, .inl rfl, (HGS11.out.set (.inl (.inl (.inl rfl))) 2 _).trans (Gs.of_below (pw_below_drewN (Below.refl _ _) _))⟩⟩
                    rw [HM0.out, HE0.out, List.append_nil]
                    exact (HF11.out.setEnd (an : Int)).below (pw_below_drewN (Below.refl _ _) _)
                · have HE0 : Aside0 (en1F st.2.2.1 (an : Int) [] = st.2.2.1) := ⟨if_neg (fun h9 => h9.2.elim (fun h8 => ce (by rw [← HEN.out]; exact h8)) (fun h8 => ca (by rw [← HEN.out]; exact h8)))⟩
                  have ca2 : en ≤ (an : Int) := by omega
                  go_quiet (fail)
                  go_wp2
                  go_meet
                  case rel =>
                    refine ⟨⟨.slice (some ⟨go, 0, none⟩) (st.1.length - 1) cO, .slice none 0 0, ?_, .inl rfl, .inl rfl, HGS11.out.trans (Gs.of_below (pw_below_drewN (Below.refl _ _) _))⟩⟩
                    rw [HM0.out, HE0.out, List.append_nil]
                    exact HF11.out.below (pw_below_drewN (Below.refl _ _) _)
            · have HE0 := Aside0.mk (show en1F st.2.2.1 (an : Int) gd = st.2.2.1 by unfold en1F; rw [if_neg (fun h9 => hk0 h9.1)])
              have HK0 := Aside0.mk hk0
              have kk : ((gd.length : Int) == 0) = false := by rw [beq_eq_false_iff_ne]; omega
              have kk2 : decide (0 < (gd.length : Int)) = true := decide_eq_true (by omega)
              clear hk0
              by_cases cc : (gd.length : Int) < cnt
              · have kc : decide ((gd.length : Int) < cnt) = true := decide_eq_true cc
                have HM0 : Aside0 (moreF (an : Int) cnt gd = [⟨(an : Int) + gd.length, cnt - gd.length⟩]) := ⟨if_pos ⟨by have := HK0.out; omega, cc⟩⟩
                have ck2 : ¬ gd.length = 0 := HK0.out
                have ck3 : 0 < gd.length := by omega
                go_quiet (fail)
                go_upto_region 15 with (fail)
                have hb9 : Below w11.heap.size w11 (w11.drewN nq) := pw_below_drewN (Below.refl _ _) _
                have HF12 := Aside0.mk (HF11.out.below hb9)
                have HGS12 := Aside0.mk (HGS11.out.trans (Gs.of_below hb9))
                have g0q : (w11.drewN nq).cell? ⟨w.heap.size, 0, none⟩ = some (.int .i64 (an : Int)) := g0'
                have g1q : (w11.drewN nq).cell? ⟨w.heap.size, 1, none⟩ = some (.int .i64 cnt) := g1'
                obtain ⟨w12, hw12⟩ : ∃ y, w11.drewN nq = y := ⟨_, rfl⟩
                rw [hw12] at HF12 HGS12 g0q g1q ⊢
                clear hb9 hw12 g0' g1' f2' z2'
                have hlim := HLIM.out
                have hw3 : IntKind.i64.wrap ((an : Int) + (gd.length : Int)) = (an : Int) + (gd.length : Int) := by simp only [i64_w]; unfold wrap64; omega
                have hw4 : IntKind.i64.wrap (cnt - (gd.length : Int)) = cnt - (gd.length : Int) := by simp only [i64_w]; unfold wrap64; omega
                clear hlim
                go_upto_region 16 with (fail)
                go_wp2_with (first
                  | ((with_reducible refine gate_callee (f := 43) rfl ?_); refine goesL_ _ rfl rfl Try.func43 (by kernel_rfl) rfl #[.pointer (some ⟨fb, 0, none⟩), .pointer (some ⟨w.heap.size + 1, 0, none⟩), .agg #[.int .i64 ((an : Int) + (gd.length : Int)), .int .i64 (cnt - (gd.length : Int))]] rfl (by (try simp only [List.map_toArray, List.map_cons, List.map_nil]); first | done | rfl) ?_; refine (ask_calls HF12.out ⟨(an : Int) + gd.length, cnt - gd.length⟩ (by rw [List.length_eraseIdx]; have := HLIM.out; split <;> omega) (by decide)).mono ?_; rintro e w13 ⟨rfl, vO3, vW3, hFN3, hNO3, hNW3, hGS3⟩; refine ⟨_, rfl, ?_⟩; have HFN3 := Aside0.mk hFN3; have HNO3 := Aside0.mk hNO3; have HNW3 := Aside0.mk hNW3; have HGS3 := Aside0.mk hGS3; clear hFN3 hNO3 hNW3 hGS3))
                go_meet
                case rel =>
                  refine ⟨⟨vO3, vW3, ?_, ?_, Nx.trans (.inl rfl) HGS12.out.size HNW3.out, HGS12.out.trans (HGS3.out.weak ?_)⟩⟩
                  · rw [HM0.out, HE0.out]
                    exact HFN3.out
                  · exact Nx.trans (.inl rfl) HGS12.out.size HNO3.out
                  · intro k _ hk
                    rcases hk with h9 | h9 | h9 | h9
                    · exact .inl (.inl h9)
                    · exact .inr (by omega)
                    · exact .inl (.inr (.inl h9))
                    · cases h9
              · have kc : decide ((gd.length : Int) < cnt) = false := decide_eq_false cc
                have HM0 := Aside0.mk (show moreF (an : Int) cnt gd = [] by unfold moreF; rw [if_neg (fun h9 => cc h9.2)])
                have cc2 : cnt ≤ (gd.length : Int) := by omega
                have ck2 : ¬ gd.length = 0 := HK0.out
                have ck3 : 0 < gd.length := by omega
                go_quiet (fail)
                go_upto_region 15 with (fail)
                have hb9 : Below w11.heap.size w11 (w11.drewN nq) := pw_below_drewN (Below.refl _ _) _
                have HF12 := Aside0.mk (HF11.out.below hb9)
                have HGS12 := Aside0.mk (HGS11.out.trans (Gs.of_below hb9))
                have g1q : (w11.drewN nq).cell? ⟨w.heap.size, 1, none⟩ = some (.int .i64 cnt) := g1'
                obtain ⟨w12, hw12⟩ : ∃ y, w11.drewN nq = y := ⟨_, rfl⟩
                rw [hw12] at HF12 HGS12 g1q ⊢
                clear hb9 hw12 g0' g1' f2' z2'
                go_wp2
                go_meet
                case rel =>
                  refine ⟨⟨.slice (some ⟨go, 0, none⟩) (st.1.length - 1) cO, .slice none 0 0, ?_, .inl rfl, .inl rfl, HGS12.out⟩⟩
                  rw [HM0.out, HE0.out, List.append_nil]
                  exact HF12.out
          case rest =>
            obtain ⟨vO2, vW2, hFN, hNX, hNW, hGS⟩ := hcut.out
            obtain ⟨w14, hw14⟩ : ∃ y : World, y = wc := ⟨_, rfl⟩
            subst hw14
            obtain ⟨ws0, hws0⟩ : ∃ y, moreF (an : Int) cnt gd = y := ⟨_, rfl⟩
            obtain ⟨en1, hen1⟩ : ∃ y, en1F st.2.2.1 (an : Int) gd = y := ⟨_, rfl⟩
            obtain ⟨⟨o2, fr2, ws2⟩, hq⟩ : ∃ y, onL en1 6 (st.1.eraseIdx i ++ ws0) st.2.1 ws0 = y := ⟨_, rfl⟩
            obtain ⟨bb, hbb⟩ : ∃ y, (decide (0 ≤ en1) && !(o2.any fun x => decide (x.f0 < en1))) = y := ⟨_, rfl⟩
            rw [hws0, hen1] at hFN
            have hgot : gotF st (an : Int) cnt gd = ((o2, fr2, en1, d2), (0, ws2, bb, if bb = true then d2.take (mn en1 (d2.length : Int)).toNat else [])) := by
              have hd3 : putF st.2.2.2 (an : Int).toNat gd = d2 := by rw [← HD2.out, ← HD1.out, Int.toNat_natCast]; rfl
              have hb3 : onB en1 o2 = bb := hbb
              unfold gotF
              rw [HFI.out]
              dsimp only
              rw [if_neg C1.out, hws0, hen1, hq, hd3]
              dsimp only
              rw [hb3]
            have hl14 : (st.1.eraseIdx i ++ ws0).length ≤ 50000 ∧ ws0.length ≤ 50000 ∧ d2.length ≤ 100000 ∧ (-1 ≤ en1 ∧ en1 ≤ 100000) := by
              have h9 := HLIM.out
              have h8 := HDL.out
              have h7 : ws0.length ≤ 1 := by rw [← hws0]; unfold moreF; split <;> simp
              have h6 : d2.length ≤ 50000 := by rw [← HD2.out]; simp only [List.length_append, List.length_take, List.length_drop]; omega
              have h5 : -1 ≤ en1 ∧ en1 ≤ 100000 := by rw [← hen1]; unfold en1F; split <;> omega
              rw [List.length_append, List.length_eraseIdx]
              refine ⟨?_, by omega, by omega, h5⟩
              split <;> omega
            have HFN14 := Aside0.mk hFN
            have HNX14 := Aside0.mk hNX
            have HGS14 := Aside0.mk hGS
            have HQ := Aside0.mk hq
            have HBB := Aside0.mk hbb
            have HGOT := Aside0.mk hgot
            have HL14 := Aside0.mk hl14
            obtain ⟨nd5, hnd5⟩ : ∃ y, (if bb = true then d2.take (mn en1 (d2.length : Int)).toNat else []) = y := ⟨_, rfl⟩
            rw [hnd5] at HGOT
            have HND := Aside0.mk hnd5
            have HNW14 := Aside0.mk hNW
            clear hnd5 hcut hNW hFN hNX hGS hq hbb hgot hl14 hws0 hen1 g0' g1' f2' z2'
            go_upto_region 17 with (fail)
            go_wp2_with (first
              | ((with_reducible refine gate_callee (f := 34) rfl ?_); refine goesL_ _ rfl rfl Try.func34 (by kernel_rfl) rfl #[.pointer (some ⟨fb, 0, none⟩), .pointer (some ⟨w.heap.size + 1, 0, none⟩)] rfl (by (try simp only [List.map_toArray, List.map_cons, List.map_nil]); first | done | rfl) ?_; refine (on_calls HFN14.out HL14.out.1 HL14.out.2.1 HL14.out.2.2.1 HLIM.out.2.2.2.1 HL14.out.2.2.2 o2 ws2 fr2 HQ.out bb HBB.out).mono ?_; rintro e w15 ⟨rfl, vO5, vW5, vN5, hFN5, hNO5, hNW5, hNN5, hGS5⟩; refine ⟨_, rfl, ?_⟩; rw [show (if bb = true then true else false) = bb by cases bb <;> rfl, HND.out] at hFN5; obtain ⟨AW5, cW5, hvW5⟩ := Kd.R_slice hFN5.rW; obtain ⟨AN5, cN5, hvN5⟩ := Kd.R_slice hFN5.rN; subst hvW5 hvN5; have HFN5 := Aside0.mk hFN5; have HNO5 := Aside0.mk hNO5; have HNW5 := Aside0.mk hNW5; have HNN5 := Aside0.mk hNN5; have HGS5 := Aside0.mk hGS5; have n0 := (blk_cell hFN5.hN 0); have n1 := (blk_cell hFN5.hN 1); have n2 := (blk_cell hFN5.hN 2); have n3 := (blk_cell hFN5.hN 3); have y0 := blk_frozen hFN5.hN 0; have y1 := blk_frozen hFN5.hN 1; have y2 := blk_frozen hFN5.hN 2; have y3 := blk_frozen hFN5.hN 3; clear hFN5 hNO5 hNW5 hNN5 hGS5))
            rw [put4_eq]
            have HGS15 := Aside0.mk (HGS14.out.trans (HGS5.out.weak (N := fun k => MG fb (.slice (some ⟨go, 0, none⟩) st.1.length cO) (.slice AD st.2.2.2.length cD) k ∨ w.heap.size ≤ k) (fun k _ hk => MA_in HNX14.out HNW14.out (Nat.le_succ _) k hk)))
            obtain ⟨hb, hfo, hgs⟩ := put4_all HFN5.out.fo HGS15.out (.inr (Nat.le_succ _)) HFN5.out.hN (.int .i64 0) (.slice AW5 ws2.length cW5) (.bool bb) (.slice AN5 nd5.length cN5)
            rw [HGOT.out]
            exact bodyPost_ret (results_cell_row rfl _ _ (w.heap.size + 1) 71 _ (0, 0) _ rfl hb Try.underlying71 rfl (by kernel_rfl)) rfl ⟨vO5, _, _, _, rfl, hfo, put4_R HFN5.out.rW HFN5.out.hN (by decide) _ _ _ _, put4_R HFN5.out.rN HFN5.out.hN (by decide) _ _ _ _, HFN5.out.ow, HFN5.out.dn', Nx.trans HNX14.out HGS14.out.size HNO5.out, HNX9.out, Nx.trans HNW14.out HGS14.out.size HNW5.out, Nx.trans (.inl rfl) HGS14.out.size HNN5.out, hgs.weak (fun k hk h9 => h9.elim id (fun h8 => absurd hk (by omega)))⟩
/-! ### the play: a row of answers, and what became of each -/
theorem S_one {α : Type} (d : Kd α) (e : TypeId) {W : World} {base : Nat} {ok : Nat → Prop} (x : α) (cs : List Value) (hp : d.M W base ok x cs) (hfresh : ok W.heap.size) (hbase : base ≤ W.heap.size) : Kd.S d e (W.alloc (.cells cs.toArray e)) base ok (.slice (some ⟨W.heap.size, 0, none⟩) 1 1) [x] := by
  have hlen : cs.length = d.sz := d.K_len (d.K_of_M hp)
  have hr : Reps ((Kd.tag (fun _ => 0) d).M W base ok) d.sz [(x, 0)] cs := Reps.front (ps := []) (cs := []) (d.M_mono (fun k hk => ⟨hk, rfl⟩) hp) hlen ⟨by simp, fun j p hj => by simp at hj⟩ (List.append_nil _)
  refine ⟨fun _ => 0, fun k hk => ?_, cs, ?_, ?_⟩
  · have : W.heap.size = k := by simpa [Value.ownBlock] using hk
    subst this
    exact hfresh
  · have h2 := World.ownsRow_lit (base := base) (e := e) (size := d.sz) W cs.toArray 1 hbase (by decide) (by simpa using hlen)
    have h3 : (W.alloc (Obj.cells cs.toArray e)).ownsRow base e d.sz (.slice (some ⟨W.heap.size, 0, none⟩) 1 1) 1 cs := by simpa using h2
    exact h3
  · refine hr.imp_ (fun p c hp => (Kd.tag (fun _ => 0) d).M_mono (fun k hk => ⟨hk.1, fun he => ?_⟩) (Kd.M_below ((Kd.tag (fun _ => 0) d).M_bound hp) (below_alloc (Below.refl _ _) _)))
    have h3 : k = W.heap.size := by simpa [Value.ownBlock] using he
    have := hk.2.2.1
    omega
def okF (fb : Nat) (vO vD : Value) (k : Nat) : Prop := k ≠ fb ∧ some k ≠ vO.ownBlock ∧ some k ≠ vD.ownBlock
def okP (vW vN : Value) (k : Nat) : Prop := vW.ownBlock = some k ∨ vN.ownBlock = some k
def fnx (n : FNx) : S71 := ⟨n.1, n.2.1, n.2.2.1, n.2.2.2⟩
theorem Nx.new {w : World} {v : Value} (h : Nx w (.slice none 0 0) v) (k : Nat) (hk : v.ownBlock = some k) : w.heap.size ≤ k := by
  rcases h with h | h | ⟨q, h, hq⟩
  · rw [hk] at h; simp [Value.ownBlock] at h
  · rw [hk] at h; cases h
  · rw [hk] at h; injection h with h; omega
theorem Nx.far {w : World} {v v' : Value} (h : Nx w v v') (k : Nat) (hk : k < w.heap.size) (hn : some k ≠ v.ownBlock) : some k ≠ v'.ownBlock := by
  intro e
  rcases h with h | h | ⟨q, h, hq⟩
  · exact hn (e.trans h)
  · rw [h] at e; cases e
  · rw [h] at e; injection e with e; omega
theorem FO.fresh {w : World} {base fb : Nat} {vO vD : Value} {st : FSt} (h : FO w base fb vO vD st) (k : Nat) (hk : w.heap.size ≤ k) : okF fb vO vD k :=
  ⟨fun e => by have := blk_lt h.hF; omega, fun e => by have := Kd.R_lt h.rO k e.symm; omega, fun e => by have := Kd.R_lt h.rD k e.symm; omega⟩
theorem pl_got {wa w5 : World} {base fb : Nat} {vO vD v6 : Value} {st : FSt} {acc : List S71} {r : FSt × FNx} {e : Ending} (hF : FO wa base fb vO vD st) (hS : Kd.S k71 71 wa base (okF fb vO vD) v6 acc) (hP : GotPost wa base fb vO vD r e w5) :
    ∃ vO' vD' vW vN, e = .returned (.agg #[.int .i64 r.2.1, vW, .bool r.2.2.2.1, vN]) ∧ FO w5 base fb vO' vD' r.1 ∧ k82.R 82 w5 base (okP vW vN) vW r.2.2.1 ∧ (Kd.int .u8).R 5 w5 base (okP vW vN) vN r.2.2.2.2 ∧ (∀ k, okP vW vN k → okF fb vO' vD' k ∧ some k ≠ v6.ownBlock) ∧ Kd.S k71 71 w5 base (fun k => okF fb vO' vD' k ∧ ¬ okP vW vN k) v6 acc ∧ Gs (MG fb vO vD) wa w5 := by
  obtain ⟨vO', vD', vW, vN, he, hFO, hW, hN, how, hdn, nO, nD, nW, nN, hG⟩ := hP
  have hfb := blk_lt hF.hF
  have h6 := Kd.S_lt hS
  refine ⟨vO', vD', vW, vN, he, hFO, R82_re hW (fun k hk => .inl hk), R5_re hN (fun k hk => .inr hk), fun k hk => ?_, ?_, hG⟩
  · rcases hk with hk | hk
    · have h9 := nW.new k hk
      exact ⟨⟨fun e => by omega, fun e => how k e.symm hk, fun e => ne_typed_ (Kd.R_typed hW k hk) (Kd.R_typed hFO.rD k e.symm) (by decide) rfl⟩, fun e => by have := h6 k e.symm; omega⟩
    · have h9 := nN.new k hk
      exact ⟨⟨fun e => by omega, fun e => ne_typed_ (Kd.R_typed hN k hk) (Kd.R_typed hFO.rO k e.symm) (by decide) rfl, fun e => hdn k e.symm hk⟩, fun e => by have := h6 k e.symm; omega⟩
  · refine Kd.S_mono (Kd.S_step (Kd.S_bound hS) (fun k hk hlt => hG.block k hlt ?_)) (fun k hk => ⟨⟨hk.1.1, nO.far k hk.2.2.1 hk.1.2.1, nD.far k hk.2.2.1 hk.1.2.2⟩, fun h => ?_⟩)
    · intro hm
      rcases hm with hm | hm | hm
      · exact hk.1.1 hm
      · exact hk.1.2.1 hm.symm
      · exact hk.1.2.2 hm.symm
    · rcases h with h | h
      · have := nW.new k h
        have := hk.2.2.1
        omega
      · have := nN.new k h
        have := hk.2.2.1
        omega
theorem pl_app {w5 w6 : World} {base fb : Nat} {vO vD v6 : Value} {st : FSt} {acc : List S71} {okp : Nat → Prop} (hF : FO w5 base fb vO vD st) (hS : Kd.S k71 71 w5 base (fun k => okF fb vO vD k ∧ ¬ okp k) v6 acc) (hg : w5.grownBy w6 v6.ownBlock) : FO w6 base fb vO vD st := by
  have hown : ∀ k, v6.ownBlock = some k → okF fb vO vD k := fun k hk => ((Kd.S_R hS).1 k hk).1
  refine ⟨(hg.block fb (blk_lt hF.hF) (fun e => (hown fb e.symm).1 rfl)).trans hF.hF, R82_keep hF.rO (fun k hk => hg.block k (Kd.R_lt hF.rO k hk) (fun e => (hown k e.symm).2.1 hk.symm)), R5_keep hF.rD (fun k hk => hg.block k (Kd.R_lt hF.rD k hk) (fun e => (hown k e.symm).2.2 hk.symm)), hF.bf⟩
/-- the limits within which got is walked -/
def okG (st : FSt) (g : S65) : Prop := st.1.length ≤ 10000 ∧ st.2.2.2.length ≤ 20000 ∧ g.f2.length ≤ 10000 ∧ (0 ≤ st.2.1 ∧ st.2.1 ≤ 100000) ∧ (-1 ≤ st.2.2.1 ∧ st.2.2.1 ≤ 100000) ∧ (0 ≤ g.f0 ∧ g.f0 ≤ 10000) ∧ (-10000 ≤ g.f1 ∧ g.f1 ≤ 10000)
instance (st : FSt) (g : S65) : Decidable (okG st g) := by unfold okG; exact inferInstance
def playL : FSt → List S65 → List S71 → Option (List S71)
  | _, [], acc => some acc
  | st, g :: gs, acc => if okG st g then playL (gotF st g.f0 g.f1 g.f2).1 gs (acc ++ [fnx (gotF st g.f0 g.f1 g.f2).2]) else none
def st0 : FSt := ((onL (-1) 6 [] 0 []).1, (onL (-1) 6 [] 0 []).2.1, -1, [])
def fetch_Play.f (gots : List S65) : Option (List S71 × Int) :=
  if 300 < gots.length then some ([], 1) else (playL st0 gots [⟨0, (onL (-1) 6 [] 0 []).2.2, false, []⟩]).map fun r => (r, 0)
set_option maxHeartbeats 8000000 in
set_option maxRecDepth 100000 in
theorem play_calls (A0 : Option Addr) (c0 : Nat) (l : List S65) (res : List S71) (w : World) (hC0 : Kd.C k65 w A0 l.length l) (h300 : l.length ≤ 300) (h : playL st0 l [⟨0, (onL (-1) 6 [] 0 []).2.2, false, []⟩] = some res) :
    Calls Try.prog 29 #[.slice A0 l.length c0] w fun e w' => ∃ v0_, e = .returned (.tuple #[v0_, .int .i64 0]) ∧ Kd.S k71 71 w' w.heap.size (fun _ => True) v0_ res ∧ Below w.heap.size w w' := by
  have hu65 := Try.underlying65
  have hu71 := Try.underlying71
  have hu85 := Try.underlying85
  have hu66 := Try.underlying66
  have k5 : decide (300 < (l.length : Int)) = false := decide_eq_false (by omega)
  have k6 : decide (300 < l.length) = false := decide_eq_false (by omega)
  have hW2 := two_blocks_ w (Obj.cells #[.slice none 0 0, .int .i64 0, .int .i64 (-1), .slice none 0 0] 85) (Obj.cells #[.int .i64 0, .slice none 0 0, .bool false, .slice none 0 0] 71)
  obtain ⟨W2, hw2⟩ : ∃ y, (w.alloc (Obj.cells #[.slice none 0 0, .int .i64 0, .int .i64 (-1), .slice none 0 0] 85)).alloc (Obj.cells #[.int .i64 0, .slice none 0 0, .bool false, .slice none 0 0] 71) = y := ⟨_, rfl⟩
  have hB2 : Below w.heap.size w W2 := by rw [← hw2]; exact below_alloc (below_alloc (Below.refl _ _) _) _
  have hF2 : FN W2 w.heap.size w.heap.size (w.heap.size + 1) (.slice none 0 0) (.slice none 0 0) (.slice none 0 0) (.slice none 0 0) [] 0 (-1) [] 0 [] false [] := by
    rw [hw2] at hW2
    exact ⟨hW2.1, hW2.2, Kd.R_nil _ _ _ _ _, Kd.R_nil _ _ _ _ _, Kd.R_nil _ _ _ _ _, Kd.R_nil _ _ _ _ _, (fun _ h => by cases h), (fun _ h => by cases h), Nat.le_refl _, Nat.le_succ _⟩
  obtain ⟨⟨o2, fr2, ws2⟩, hq⟩ : ∃ y, onL (-1) 6 [] 0 [] = y := ⟨_, rfl⟩
  have hst : st0 = (o2, fr2, -1, []) := by unfold st0; rw [hq]
  rw [hst, hq] at h
  dsimp only at h
  have HC0 := Aside0.mk hC0
  have H300 := Aside0.mk h300
  have H := Aside0.mk h
  have HB2 := Aside0.mk hB2
  have HF2 := Aside0.mk hF2
  have HW2 := Aside0.mk hw2
  have HQ := Aside0.mk hq
  clear hC0 h300 h hB2 hF2 hw2 hq hst hW2
  go_enter Try.func29, Try.ntmps29
  go_upto_region 7 with (first
    | ((with_reducible refine gate_callee (f := 34) rfl ?_); refine goesL_ _ rfl rfl Try.func34 (by kernel_rfl) rfl #[.pointer (some ⟨w.heap.size, 0, none⟩), .pointer (some ⟨w.heap.size + 1, 0, none⟩)] rfl (by (try simp only [List.map_toArray, List.map_cons, List.map_nil]); first | done | rfl) ?_; (rw [HW2.out]); refine (on_calls HF2.out (by decide) (by decide) (by decide) (by decide) (by decide) o2 ws2 fr2 HQ.out false (by simp)).mono ?_; rintro e w5 ⟨rfl, vO5, vW5, vN5, hFN5, hNO5, hNW5, hNN5, hGS5⟩; refine ⟨_, rfl, ?_⟩; replace hFN5 : FN w5 w.heap.size w.heap.size (w.heap.size + 1) vO5 (.slice none 0 0) vW5 vN5 o2 fr2 (-1) [] 0 ws2 false [] := (by simpa only [Bool.false_eq_true, if_false] using hFN5); obtain ⟨AW5, cW5, hvW5⟩ := Kd.R_slice hFN5.rW; obtain ⟨AN5, cN5, hvN5⟩ := Kd.R_slice hFN5.rN; subst hvW5 hvN5; have HFN5 := Aside0.mk hFN5; have HNO5 := Aside0.mk hNO5; have HNW5 := Aside0.mk hNW5; have HNN5 := Aside0.mk hNN5; have HGS5 := Aside0.mk hGS5; have n0 := (blk_cell hFN5.hN 0); have n1 := (blk_cell hFN5.hN 1); have n2 := (blk_cell hFN5.hN 2); have n3 := (blk_cell hFN5.hN 3); clear hFN5 hNO5 hNW5 hNN5 hGS5))
  have hsz2 : w.heap.size + 2 ≤ W2.heap.size := by rw [← HW2.out]; simp
  have hsz5 : w.heap.size + 2 ≤ w5.heap.size := Nat.le_trans hsz2 HGS5.out.size
  have hB5 : Below w.heap.size w w5 := HB2.out.trans (HGS5.out.below (Nat.le_trans (Nat.le_add_right _ 2) hsz2) (fun k hk => by
    rcases hk with hk | hk | hk | hk
    · omega
    · omega
    · cases hk
    · cases hk))
  have hFO5 := HFN5.out.fo
  have hS6 : Kd.S k71 71 (w5.alloc (Obj.cells #[Value.int IntKind.i64 0, Value.slice AW5 ws2.length cW5, Value.bool false, Value.slice AN5 0 cN5] 71)) w.heap.size (okF w.heap.size vO5 (.slice none 0 0)) (.slice (some ⟨w5.heap.size, 0, none⟩) 1 1) [⟨0, ws2, false, []⟩] := by
    refine S_one k71 71 (⟨0, ws2, false, []⟩ : S71) [Value.int IntKind.i64 0, Value.slice AW5 ws2.length cW5, Value.bool false, Value.slice AN5 0 cN5] (k71_mkM _ _ _ (⟨0, ws2, false, []⟩ : S71) (R82_re HFN5.out.rW (fun k hk => ?_)) (R5_re HFN5.out.rN (fun k hk => ?_))) (hFO5.fresh _ (Nat.le_refl _)) (by omega)
    · have h9 := HNW5.out.new k hk
      exact ⟨by omega, fun e => HFN5.out.ow k e.symm hk, fun e => by cases e⟩
    · have h9 := HNN5.out.new k hk
      exact ⟨by omega, fun e => ne_typed_ (Kd.R_typed HFN5.out.rN k hk) (Kd.R_typed HFN5.out.rO k e.symm) (by decide) rfl, fun e => by cases e⟩
  obtain ⟨W6, hW6⟩ : ∃ y, w5.alloc (Obj.cells #[Value.int IntKind.i64 0, Value.slice AW5 ws2.length cW5, Value.bool false, Value.slice AN5 0 cN5] 71) = y := ⟨_, rfl⟩
  have hB56 : Below w5.heap.size w5 W6 := by rw [← hW6]; exact below_alloc (Below.refl _ _) _
  rw [hW6] at hS6 ⊢
  have HF6 := Aside0.mk (hFO5.below hB56)
  have HS6 := Aside0.mk hS6
  have HB6 := Aside0.mk (hB5.trans (hB56.mono (by omega)))
  clear hsz2 hsz5 hB5 hFO5 hS6 hB56 hW6 n0 n1 n2 n3 HFN5 HNO5 HNW5 HNN5 HGS5 HB2 HF2 HW2 HQ k5 k6
  go_wp2
  go_loopw [6, 20] (fun v6 v20 wr => ∃ (j : Nat) (st : FSt) (acc : List S71) (vO vD : Value), j ≤ l.length ∧ v20 = .int .i64 (j : Int) ∧ Aside0 (playL st (l.drop j) acc = some res) ∧ Aside0 (acc.length = j + 1) ∧ Aside0 (FO wr w.heap.size w.heap.size vO vD st) ∧ Aside0 (Kd.S k71 71 wr w.heap.size (okF w.heap.size vO vD) v6 acc) ∧ Aside0 (Below w.heap.size w wr)) (fun _ v20 _ => l.length - (intOf v20).toNat)
  case atStart => exact ⟨0, _, _, _, _, Nat.zero_le _, rfl, ⟨by rw [List.drop_zero]; exact H.out⟩, ⟨rfl⟩, HF6, HS6, HB6⟩
  case round =>
    clear HF6 HS6 HB6 H
    have h300 := H300.out
    obtain ⟨j, st, acc, vO, vD, hj, rfl, H, HL, HF, HS, HB⟩ := hrel
    obtain ⟨wo, hwo⟩ : ∃ wo : World, wo = wr := ⟨_, rfl⟩
    subst hwo
    by_cases k0 : j < l.length
    · have k0b : decide (j < l.length) = true := decide_eq_true k0
      have k0i : decide ((j : Int) < (l.length : Int)) = true := decide_eq_true (by omega)
      obtain ⟨ad, AG, cG, rfl, hx0, hx1, hx2, hcG, hCG⟩ := at_T65 HC0.out (j : Int) (by omega) (by omega)
      replace hx0 := pw_cell_below HB.out hx0
      replace hx1 := pw_cell_below HB.out hx1
      replace hx2 := pw_cell_below HB.out hx2
      rw [Int.toNat_natCast] at hx0 hx1 hx2
      obtain ⟨a, hz⟩ : ∃ z, rd_T65 l (j : Int) = z := ⟨_, rfl⟩
      rw [hz] at hx0 hx1 hx2 hcG hCG
      obtain ⟨at_, cnt, gd⟩ := a
      have hdrop : l.drop j = (⟨at_, cnt, gd⟩ : S65) :: l.drop (j + 1) := by
        rw [List.drop_eq_getElem_cons k0]
        congr 1
        rw [← hz, rd_T65, Int.toNat_natCast, List.getD_eq_getElem?_getD, List.getElem?_eq_getElem k0]
        rfl
      have h := H.out
      rw [hdrop, playL] at h
      simp only at hx0 hx1 hx2 hcG hCG h
      by_cases hok : okG st ⟨at_, cnt, gd⟩
      case neg => rw [if_neg hok] at h; cases h
      rw [if_pos hok] at h
      obtain ⟨hl1, hl2, hg, hfr, hen, hat, hcn⟩ := hok
      obtain ⟨r, hr⟩ : ∃ r, gotF st at_ cnt gd = r := ⟨_, rfl⟩
      rw [hr] at h
      obtain ⟨wa, hwa⟩ : ∃ y, wo.alloc (Obj.cells #[.int .i64 at_, .int .i64 cnt, .slice AG gd.length cG] 65) = y := ⟨_, rfl⟩
      have hBa : Below wo.heap.size wo wa := by rw [← hwa]; exact below_alloc (Below.refl _ _) _
      have HFA := Aside0.mk (HF.out.below hBa)
      have HSA := Aside0.mk (Kd.S_below HS.out hBa)
      have HBA := Aside0.mk (below_step HB.out hBa)
      have HGC := Aside0.mk (got_calls HFA.out HBA.out at_ cnt AG cG gd hCG hcG hl1 hl2 hg hfr hen hat hcn)
      rw [hr] at HGC
      have HR := Aside0.mk hr
      have HWA := Aside0.mk hwa
      have H1 := Aside0.mk h
      have HLL := Aside0.mk (show (acc.length + 1) * 64 ≤ 140737488355328 by have := HL.out; omega)
      obtain ⟨A6, c6, hv6⟩ := Kd.S_slice HS.out
      subst hv6
      clear hz hdrop h H hl1 hl2 hg hfr hen hat hcn hr hwa hBa hcG hCG
      go_wp2_with (first
        | ((with_reducible refine gate_callee (f := 35) rfl ?_); refine goesL_ _ rfl rfl Try.func35 (by kernel_rfl) rfl #[.pointer (some ⟨w.heap.size, 0, none⟩), .agg #[.int .i64 at_, .int .i64 cnt, .slice AG gd.length cG]] rfl (by (try simp only [List.map_toArray, List.map_cons, List.map_nil]); first | done | rfl) ?_; (rw [HWA.out]); refine HGC.out.mono ?_; intro e w5 hP; obtain ⟨vO', vD', vW, vN, he, hF5, hW5, hN5, hokp, hS5, hG5⟩ := pl_got HFA.out HSA.out hP; subst he; refine ⟨_, rfl, ?_⟩; obtain ⟨AW, cW, hvW⟩ := Kd.R_slice hW5; obtain ⟨AN, cN, hvN⟩ := Kd.R_slice hN5; subst hvW hvN; have HF5 := Aside0.mk hF5; have HW5 := Aside0.mk hW5; have HN5 := Aside0.mk hN5; have HOKP := Aside0.mk hokp; have HS5 := Aside0.mk hS5; have HG5 := Aside0.mk hG5; clear hF5 hW5 hN5 hokp hS5 hG5 hP)
        | ((with_reducible refine gate_builtin (b := .append) (xs := #[.tmp 24, .tmp 28]) rfl ?_); at_builtin; refine Kd.S_append k71 (w0 := w5) (W := w5) w.heap.size rfl (.tmp 24) (.tmp 28) 66 71 (.agg #[.int .i64 0, .slice none 0 0, .bool false, .slice none 0 0]) 64 rfl Try.underlying66 info71 rfl (by decide) (by decide) (.slice A6 acc.length c6) acc (fnx r.2) [.int .i64 r.2.1, .slice AW r.2.2.1.length cW, .bool r.2.2.2.1, .slice AN r.2.2.2.2.length cN] (okF w.heap.size vO' vD') (okP (.slice AW r.2.2.1.length cW) (.slice AN r.2.2.2.2.length cN)) rfl rfl (k71_mkM _ _ _ (fnx r.2) HW5.out HN5.out) HOKP.out HF5.out.fresh HS5.out (Below.refl _ _) ?aS HLL.out ?_; (case aS => have := HF5.out.bf; have := blk_lt HF5.out.hF; omega); intro v1 w6 ho hb6 hg6 hat6; have HO6 := Aside0.mk ho; have HB6 := Aside0.mk hb6; have HF6 := Aside0.mk (pl_app HF5.out HS5.out hg6); clear ho hb6 hg6 hat6))
      have hgb : Below w.heap.size wa w5 := HG5.out.below HBA.out.size (fun k hk => by
        rcases hk with hk | hk | hk
        · omega
        · exact Kd.R_base HFA.out.rO k hk
        · exact Kd.R_base HFA.out.rD k hk)
      exact ⟨⟨j + 1, r.1, acc ++ [fnx r.2], vO', vD', by omega, by go_num, H1, ⟨by rw [List.length_append]; have := HL.out; simp; omega⟩, HF6, HO6, ⟨(HBA.out.trans hgb).trans HB6.out⟩⟩, by simp [intOf]; omega⟩
    · have k0b : decide (j < l.length) = false := decide_eq_false k0
      have k0i : decide ((j : Int) < (l.length : Int)) = false := decide_eq_false (by omega)
      have h := H.out
      rw [List.drop_eq_nil_of_le (by omega), playL] at h
      injection h with h
      subst h
      clear H
      obtain ⟨A9, c9, hv9⟩ := Kd.S_slice HS.out
      subst hv9
      go_wp2
      go_ret2
      exact ⟨_, rfl, Kd.S_mono HS.out (fun _ _ => trivial), HB.out⟩

set_option maxHeartbeats 8000000 in
set_option maxRecDepth 100000 in
theorem fetch_Play.calls (A0 : Option Addr) (c0 : Nat) (l0 : List S65) (r1 : List S71) (r2 : Int) (w : World) (hr0 : Kd.C k65 w A0 l0.length l0) (hc0 : l0.length ≤ c0) (h : fetch_Play.f l0 = some (r1, r2)) :
    Calls Try.prog 29 #[.slice A0 l0.length c0] w fun e w' => ∃ v0_ : Value, e = .returned (.tuple #[v0_, .int .i64 r2]) ∧ Kd.S k71 71 w' w.heap.size (fun _ => True) v0_ r1 ∧ Below w.heap.size w w' := by
  unfold fetch_Play.f at h
  by_cases c : 300 < l0.length
  · rw [if_pos c] at h
    simp only [Option.some.injEq, Prod.mk.injEq] at h
    obtain ⟨rfl, rfl⟩ := h
    have k5 : decide (300 < (l0.length : Int)) = true := decide_eq_true (by omega)
    have k6 : decide (300 < l0.length) = true := decide_eq_true c
    go_enter Try.func29, Try.ntmps29
    go_wp2
    go_ret2
    exact ⟨_, rfl, Kd.S_nil _ _ _ _ _, Below.refl _ _⟩
  · rw [if_neg c] at h
    rcases hp : playL st0 l0 [⟨0, (onL (-1) 6 [] 0 []).2.2, false, []⟩] with _ | r
    · rw [hp] at h
      exact absurd h (by simp)
    · rw [hp] at h
      simp only [Option.map_some, Option.some.injEq, Prod.mk.injEq] at h
      obtain ⟨rfl, rfl⟩ := h
      exact play_calls A0 c0 l0 r w hr0 (by omega) hp

end Go.Proofs.Ytlgehakaedokeaa.PFetchStill
