/- Printed by a program of this session (wip/myprint.py): Go functions of the law as Lean functions, and the proof that the code comes to these answers. -/
import Derived.Test.YtjbilachfipicaaPRecvTwicex0
import Derived.Test.YtjbilachfipicaaPRecvTwicex3
import Derived.Test.YtjbilachfipicaaPRecvTwicex4
namespace Go.Proofs.Ytjbilachfipicaa.PRecvTwice
open Go.RowKit Go.Proofs.YtjbilachfipicaaW.PrintWords Go.Proofs.YtjbilachfipicaaW.PrintLast Go.Proofs.YtjbilachfipicaaW.PrintMore
attribute [local go_sem] max2_int min2_int max_two min_two max_three min_three max_four min_four   -- for this text's walks alone
attribute [local go_sem] pn_setCell_drewN
set_option linter.unusedVariables false
set_option linter.unusedSimpArgs false

/-! ### recv_Play: function 28, by hand -/
/-! ### whether a place came: slices.ContainsFunc with a function that reads two variables in memory -/
def cameR (p : Int) (x : S56) : Bool := decide (x.f0 ≤ p) && decide (p < x.f1)
set_option maxHeartbeats 4000000 in
set_option maxRecDepth 100000 in
theorem came_calls (p1 p2 : Nat) (a c fr i p : Int) (w : World) (h1 : w.heap[p1]? = some (.cells #[.int .i64 fr] 3 (0, 0))) (h2 : w.heap[p2]? = some (.cells #[.int .i64 i] 3 (0, 0))) (hp : IntKind.i64.wrap (fr + i) = p) :
    Calls Try.prog 74 #[.agg #[.int .i64 a, .int .i64 c], .pointer (some ⟨p1, 0, none⟩), .pointer (some ⟨p2, 0, none⟩)] w fun e w' => e = .returned (.bool (cameR p ⟨a, c⟩)) ∧ Below w.heap.size w w' := by
  have hu56 := Try.underlying56
  have HN := Aside0.mk (blk_new w (Obj.cells #[.int .i64 a, .int .i64 c] 56))
  have H1 := Aside0.mk (blk_alloc h1 (Obj.cells #[.int .i64 a, .int .i64 c] 56))
  have H2 := Aside0.mk (blk_alloc h2 (Obj.cells #[.int .i64 a, .int .i64 c] 56))
  have HB := Aside0.mk (below_alloc (Below.refl w.heap.size w) (Obj.cells #[.int .i64 a, .int .i64 c] 56))
  clear h1 h2
  go_enter Try.func74, Try.ntmps74
  go_upto_region 1 with (fail)
  obtain ⟨W1, hW1⟩ : ∃ y, w.alloc (Obj.cells #[.int .i64 a, .int .i64 c] 56) = y := ⟨_, rfl⟩
  rw [hW1] at HN H1 H2 HB ⊢
  clear hW1
  have t0 : W1.cell? ⟨w.heap.size, 0, none⟩ = some (.int .i64 a) := (blk_cell HN.out 0).trans rfl
  have t1 : W1.cell? ⟨w.heap.size, 1, none⟩ = some (.int .i64 c) := (blk_cell HN.out 1).trans rfl
  have t2 : W1.cell? ⟨p1, 0, none⟩ = some (.int .i64 fr) := (blk_cell H1.out 0).trans rfl
  have t3 : W1.cell? ⟨p2, 0, none⟩ = some (.int .i64 i) := (blk_cell H2.out 0).trans rfl
  by_cases c1 : a ≤ p
  · have k1 : decide (a ≤ p) = true := decide_eq_true c1
    go_wp2
    go_ret
    exact ⟨by show Ending.returned (.bool (decide (p < c))) = .returned (.bool (decide (a ≤ p) && decide (p < c))); rw [k1]; rfl, HB.out⟩
  · have k1 : decide (a ≤ p) = false := decide_eq_false c1
    go_wp2
    go_ret
    exact ⟨by show Ending.returned (.bool false) = .returned (.bool (decide (a ≤ p) && decide (p < c))); rw [k1]; rfl, HB.out⟩
set_option maxHeartbeats 4000000 in
set_option maxRecDepth 100000 in
theorem idxCame_calls (p1 p2 : Nat) (fr i p : Int) (A : Option Addr) (cl : Nat) (l : List S56) (w : World) (hC : Kd.C k56 w A l.length l) (hl : l.length ≤ 100000) (h1 : w.heap[p1]? = some (.cells #[.int .i64 fr] 3 (0, 0))) (h2 : w.heap[p2]? = some (.cells #[.int .i64 i] 3 (0, 0))) (hp : IntKind.i64.wrap (fr + i) = p) :
    Calls Try.prog 76 #[.slice A l.length cl, .func (.func 74) #[] #[.pointer (some ⟨p1, 0, none⟩), .pointer (some ⟨p2, 0, none⟩)]] w fun e w' => ∃ r : Int, e = .returned (.int .i64 r) ∧ (decide (0 ≤ r) = l.any (cameR p)) ∧ Below w.heap.size w w' := by
  have hu82 := Try.underlying56
  have HC := Aside0.mk hC
  have H1 := Aside0.mk h1
  have H2 := Aside0.mk h2
  have HP := Aside0.mk hp
  clear hC h1 h2 hp
  go_enter Try.func76, Try.ntmps76
  go_wp2
  go_loopw [8] (fun v8 wr => ∃ a : Nat, a ≤ l.length ∧ v8 = .int .i64 (a : Int) ∧ Aside0 (((l.take a).any (cameR p)) = false) ∧ Aside0 (Below w.heap.size w wr)) (fun v8 _ => l.length - (intOf v8).toNat)
  case atStart => exact ⟨0, Nat.zero_le _, rfl, ⟨rfl⟩, ⟨Below.refl _ _⟩⟩
  case round =>
    obtain ⟨a, ha, rfl, HN, HB⟩ := hrel
    obtain ⟨wo, hwo⟩ : ∃ wo : World, wo = wr := ⟨_, rfl⟩
    subst hwo
    by_cases c0 : a < l.length
    · have c0b : decide (a < l.length) = true := decide_eq_true c0
      have c0i : decide ((a : Int) < (l.length : Int)) = true := decide_eq_true (by omega)
      obtain ⟨ad, rfl, p0, p1_⟩ := at_T56 (Kd.C_below HC.out HB.out) (a : Int) (by omega) (by omega)
      rw [Int.toNat_natCast] at p0 p1_
      obtain ⟨z, hz⟩ : ∃ z, rd_T56 l (a : Int) = z := ⟨_, rfl⟩
      have HT := Aside0.mk (show l.take (a + 1) = l.take a ++ [z] by
        rw [← hz, rd_T56, Int.toNat_natCast, List.getD_eq_getElem?_getD, List.getElem?_eq_getElem c0, Option.getD_some, List.take_append_getElem c0])
      rw [hz] at p0 p1_
      clear hz
      go_wp2_with (fail)
      refine (came_calls p1 p2 z.f0 z.f1 fr i p wo (blk_below H1.out HB.out) (blk_below H2.out HB.out) HP.out).mono ?_
      rintro e w5 ⟨rfl, hb5⟩
      have HB5 := Aside0.mk (below_step HB.out hb5)
      clear hb5
      by_cases cz : cameR p ⟨z.f0, z.f1⟩ = true
      · have hany : (l.any (cameR p)) = true := by
          rw [List.any_eq_true]
          exact ⟨z, List.mem_of_mem_take (HT.out ▸ List.mem_append_right _ (List.mem_singleton.2 rfl)), cz⟩
        have HA := Aside0.mk hany
        rw [cz]
        clear cz hany
        dsimp only
        go_wp2
        go_ret
        exact ⟨(a : Int), rfl, by rw [HA.out]; exact decide_eq_true (by omega), HB5.out⟩
      · have kz : cameR p ⟨z.f0, z.f1⟩ = false := by simpa using cz
        have HN5 : Aside0 (((l.take (a + 1)).any (cameR p)) = false) := ⟨by rw [HT.out, List.any_append, HN.out, List.any_cons, show cameR p z = false from kz]; rfl⟩
        rw [kz]
        clear cz kz
        dsimp only
        go_wp2
        exact ⟨⟨a + 1, by omega, by go_num, HN5, ⟨HB5.out⟩⟩, by simp [intOf]; omega⟩
    · have c0b : decide (a < l.length) = false := decide_eq_false c0
      have c0i : decide ((a : Int) < (l.length : Int)) = false := decide_eq_false (by omega)
      go_wp2
      go_ret
      refine ⟨-1, rfl, ?_, HB.out⟩
      have h := HN.out
      rw [List.take_of_length_le (by omega)] at h
      rw [h]
      rfl
set_option maxHeartbeats 4000000 in
set_option maxRecDepth 100000 in
theorem came_contains (p1 p2 : Nat) (fr i p : Int) (A : Option Addr) (cl : Nat) (l : List S56) (w : World) (hC : Kd.C k56 w A l.length l) (hl : l.length ≤ 100000) (h1 : w.heap[p1]? = some (.cells #[.int .i64 fr] 3 (0, 0))) (h2 : w.heap[p2]? = some (.cells #[.int .i64 i] 3 (0, 0))) (hp : IntKind.i64.wrap (fr + i) = p) :
    Calls Try.prog 60 #[.slice A l.length cl, .func (.func 74) #[] #[.pointer (some ⟨p1, 0, none⟩), .pointer (some ⟨p2, 0, none⟩)]] w fun e w' => e = .returned (.bool (l.any (cameR p))) ∧ Below w.heap.size w w' := by
  have HI := Aside0.mk (idxCame_calls p1 p2 fr i p A cl l w hC hl h1 h2 hp)
  clear hC h1 h2 hp
  go_enter Try.func60, Try.ntmps60
  go_wp2_with (first
    | ((with_reducible refine gate_callee (f := 76) rfl ?_); refine goesL_ _ rfl rfl Try.func76 (by kernel_rfl) rfl #[.slice A l.length cl, .func (.func 74) #[] #[.pointer (some ⟨p1, 0, none⟩), .pointer (some ⟨p2, 0, none⟩)]] rfl (by (try simp only [List.map_toArray, List.map_cons, List.map_nil]); first | done | rfl) ?_; refine HI.out.mono ?_; rintro e w5 ⟨r, rfl, hr, hb5⟩; refine ⟨_, rfl, ?_⟩; have HR := Aside0.mk hr; have HB5 := Aside0.mk hb5; clear hb5 hr))
  go_ret
  exact ⟨by first | (rw [← HR.out]; rfl) | (rw [← HR.out]), HB5.out⟩
/-- the world goes on; of what was, only blocks of M change -/
structure Gs (M : Nat → Prop) (w w' : World) : Prop where
  os : w'.os = w.os
  tape : w'.tape = w.tape
  output : w'.output = w.output
  size : w.heap.size ≤ w'.heap.size
  block : ∀ k, k < w.heap.size → ¬ M k → w'.heap[k]? = w.heap[k]?
theorem Gs.refl (M : Nat → Prop) (w : World) : Gs M w w := ⟨rfl, rfl, rfl, Nat.le_refl _, fun _ _ _ => rfl⟩
theorem Gs.trans {M : Nat → Prop} {a b c : World} (h : Gs M a b) (k : Gs M b c) : Gs M a c := ⟨k.os.trans h.os, k.tape.trans h.tape, k.output.trans h.output, Nat.le_trans h.size k.size, fun i hi hm => (k.block i (Nat.lt_of_lt_of_le hi h.size) hm).trans (h.block i hi hm)⟩
theorem Gs.of_below {M : Nat → Prop} {w w' : World} (h : Below w.heap.size w w') : Gs M w w' := ⟨h.os, h.tape, h.output, h.size, fun i hi _ => h.block i hi⟩
theorem Gs.of_grown {M : Nat → Prop} {w w' : World} {r : Option Nat} (h : w.grownBy w' r) (hM : ∀ k, r = some k → M k) : Gs M w w' := ⟨h.os, h.tape, h.output, h.size, fun i hi hm => h.block i hi (fun e => hm (hM i e.symm))⟩
theorem Gs.set {M : Nat → Prop} {w w' : World} (h : Gs M w w') {g : Nat} (hg : M g ∨ w.heap.size ≤ g) (j : Nat) (u : Value) : Gs M w (w'.setCell ⟨g, j, none⟩ u) := by
  have hb := (Below.refl g w').setCell (p := ⟨g, j, none⟩) (Nat.le_refl _) u
  refine ⟨hb.os.trans h.os, hb.tape.trans h.tape, hb.output.trans h.output, Nat.le_trans h.size hb.size, fun k hk hm => ?_⟩
  rw [← h.block k hk hm]
  refine Below.heap_setCell w' ⟨g, j, none⟩ u k ?_
  rintro rfl
  rcases hg with h1 | h1
  · exact hm h1
  · exact absurd hk (Nat.not_lt.2 h1)
theorem Gs.weak {M N : Nat → Prop} {w w' : World} (h : Gs M w w') (hMN : ∀ k, k < w.heap.size → M k → N k) : Gs N w w' := ⟨h.os, h.tape, h.output, h.size, fun k hk hn => h.block k hk (fun hm => hn (hMN k hk hm))⟩
theorem Gs.below {M : Nat → Prop} {w w' : World} {base : Nat} (h : Gs M w w') (hb : base ≤ w.heap.size) (hM : ∀ k, M k → base ≤ k) : Below base w w' := ⟨h.os, h.tape, h.output, h.size, fun k hk => h.block k (by omega) (fun hm => by have := hM k hm; omega)⟩
theorem R5_re {w : World} {base : Nat} {ok ok' : Nat → Prop} {v : Value} {xs : List Int} (h : Kd.R (Kd.int .u8) 5 w base ok v xs) (hok : ∀ k, v.ownBlock = some k → ok' k) : Kd.R (Kd.int .u8) 5 w base ok' v xs := ⟨hok, h.2⟩
theorem R5_keep {w w' : World} {base : Nat} {v : Value} {xs : List Int} (h : Kd.R (Kd.int .u8) 5 w base (fun _ => True) v xs) (hk : ∀ k, v.ownBlock = some k → w'.heap[k]? = w.heap[k]?) : Kd.R (Kd.int .u8) 5 w' base (fun _ => True) v xs :=
  R5_re (Kd.R_move (R5_re h (ok' := fun k => v.ownBlock = some k) (fun _ e => e)) hk) (fun _ _ => trivial)
theorem RR_re {w : World} {base : Nat} {ok ok' : Nat → Prop} {v : Value} {xs : List S56} (h : Kd.R k56 56 w base ok v xs) (hok : ∀ k, v.ownBlock = some k → ok' k) : Kd.R k56 56 w base ok' v xs := ⟨hok, h.2⟩
theorem RR_keep {w w' : World} {base : Nat} {v : Value} {xs : List S56} (h : Kd.R k56 56 w base (fun _ => True) v xs) (hk : ∀ k, v.ownBlock = some k → w'.heap[k]? = w.heap[k]?) : Kd.R k56 56 w' base (fun _ => True) v xs :=
  RR_re (Kd.R_move (RR_re h (ok' := fun k => v.ownBlock = some k) (fun _ e => e)) hk) (fun _ _ => trivial)
/-- where a row's block came from -/
def Nx (w : World) (v v' : Value) : Prop := v'.ownBlock = v.ownBlock ∨ v'.ownBlock = none ∨ ∃ b, v'.ownBlock = some b ∧ w.heap.size ≤ b
theorem Nx.refl (w : World) (v : Value) : Nx w v v := .inl rfl
theorem Nx.trans {w w' : World} {a b c : Value} (h : Nx w a b) (hs : w.heap.size ≤ w'.heap.size) (k : Nx w' b c) : Nx w a c := by
  rcases k with k | k | ⟨q, k, hq⟩
  · rcases h with h | h | ⟨q, h, hq⟩
    · exact .inl (k.trans h)
    · exact .inr (.inl (k.trans h))
    · exact .inr (.inr ⟨q, k.trans h, hq⟩)
  · exact .inr (.inl k)
  · exact .inr (.inr ⟨q, k, Nat.le_trans hs hq⟩)
theorem ne_typed_ {w : World} {k g t t' : Nat} (h : ∃ cells, w.heap[k]? = some (.cells cells t (0, 0))) (h' : ∃ cells, w.heap[g]? = some (.cells cells t' (0, 0))) (hne : t ≠ t') : k ≠ g := by
  rintro rfl
  obtain ⟨c, h⟩ := h
  obtain ⟨c', h'⟩ := h'
  rw [h] at h'
  injection h' with h'
  injection h' with _ h'
  exact hne h'
theorem set_keep_ (w : World) (g j : Nat) (u : Value) (k : Nat) (h : k ≠ g) : (w.setCell ⟨g, j, none⟩ u).heap[k]? = w.heap[k]? := Below.heap_setCell w ⟨g, j, none⟩ u k h
theorem Nx.new {w : World} {v : Value} (h : Nx w (.slice none 0 0) v) (k : Nat) (hk : v.ownBlock = some k) : w.heap.size ≤ k := by
  rcases h with h | h | ⟨q, h, hq⟩
  · rw [hk] at h; simp [Value.ownBlock] at h
  · rw [hk] at h; cases h
  · rw [hk] at h; injection h with h; omega
theorem Nx.far {w : World} {v v' : Value} (h : Nx w v v') (k : Nat) (hk : k < w.heap.size) (hn : some k ≠ v.ownBlock) : some k ≠ v'.ownBlock := by
  intro e
  rcases h with h | h | ⟨q, h, hq⟩
  · exact hn (e.trans h)
  · rw [h] at e; cases e
  · rw [h] at e; injection e with e; omega
theorem cellfar_ {w : World} {g j b o : Nat} {u v : Value} (h : w.cell? ⟨b, o, none⟩ = some v) (hne : b ≠ g) : (w.setCell ⟨g, j, none⟩ u).cell? ⟨b, o, none⟩ = some v := (World.cell?_of_block (a := ⟨b, o, none⟩) (set_keep_ w g j u b hne)).trans h
theorem setCells_blk_ {g t : Nat} : ∀ (vs : List Value) (o : Nat) (W : World) (cur : Array Value), W.heap[g]? = some (.cells cur t (0, 0)) → o + vs.length ≤ cur.size → (W.setCells g o vs).heap[g]? = some (.cells (cur.toList.take o ++ vs ++ cur.toList.drop (o + vs.length)).toArray t (0, 0))
  | [], o, W, cur, h, _ => by
    rw [List.length_nil, Nat.add_zero, List.append_nil, List.take_append_drop]
    exact h
  | v :: r, o, W, cur, h, hl => by
    have hlt : o < cur.size := by simp only [List.length_cons] at hl; omega
    have h1 : (W.setCell ⟨g, o, none⟩ v).heap[g]? = some (.cells (cur.setIfInBounds o v) t (0, 0)) := blk_put h o v rfl
    have h2 := setCells_blk_ r (o + 1) _ _ h1 (by rw [Array.size_setIfInBounds]; simp only [List.length_cons] at hl; omega)
    have e1 : (cur.setIfInBounds o v).toList = cur.toList.take o ++ v :: cur.toList.drop (o + 1) := by
      rw [Array.toList_setIfInBounds, List.set_eq_take_append_cons_drop, if_pos (by simpa using hlt)]
    have lt : (cur.toList.take o).length = o := by rw [List.length_take]; simp; omega
    have e2 : (cur.setIfInBounds o v).toList.take (o + 1) = cur.toList.take o ++ [v] := by
      rw [e1, List.take_append, lt, List.take_of_length_le (by omega), show o + 1 - o = 1 by omega]; rfl
    have e3 : (cur.setIfInBounds o v).toList.drop (o + 1 + r.length) = cur.toList.drop (o + (v :: r).length) := by
      rw [e1, List.drop_append, lt, List.drop_of_length_le (by omega), List.nil_append, show o + 1 + r.length - o = r.length + 1 by omega, List.drop_succ_cons, List.drop_drop]
      congr 1
      simp only [List.length_cons]; omega
    rw [e2, e3] at h2
    rw [World.setCells, h2]
    simp
theorem gs_setCells_ (g : Nat) : ∀ (vs : List Value) (o : Nat) (w0 w : World), Gs (fun k => k = g) w0 w → Gs (fun k => k = g) w0 (w.setCells g o vs)
  | [], _, _, _, h => h
  | v :: r, o, w0, w, h => gs_setCells_ g r (o + 1) w0 _ (h.set (.inl rfl) o v)
theorem set_all_ {W : World} {g t : Nat} {cur : Array Value} (h : W.heap[g]? = some (.cells cur t (0, 0))) (vs : List Value) (hl : vs.length = cur.size) : (W.setCells g 0 vs).heap[g]? = some (.cells vs.toArray t (0, 0)) := by
  rw [setCells_blk_ vs 0 W cur h (by omega), List.take_zero, List.nil_append, List.drop_of_length_le (by rw [Array.length_toList]; omega), List.append_nil]
theorem put6_eq (W : World) (g : Nat) (v0 v1 v2 v3 v4 v5 : Value) : (((((W.setCell ⟨g, 0, none⟩ v0).setCell ⟨g, 1, none⟩ v1).setCell ⟨g, 2, none⟩ v2).setCell ⟨g, 3, none⟩ v3).setCell ⟨g, 4, none⟩ v4).setCell ⟨g, 5, none⟩ v5 = W.setCells g 0 [v0, v1, v2, v3, v4, v5] := rfl
theorem put7_eq (W : World) (g : Nat) (v0 v1 v2 v3 v4 v5 v6 : Value) : ((((((W.setCell ⟨g, 0, none⟩ v0).setCell ⟨g, 1, none⟩ v1).setCell ⟨g, 2, none⟩ v2).setCell ⟨g, 3, none⟩ v3).setCell ⟨g, 4, none⟩ v4).setCell ⟨g, 5, none⟩ v5).setCell ⟨g, 6, none⟩ v6 = W.setCells g 0 [v0, v1, v2, v3, v4, v5, v6] := rfl
theorem four_cells {W : World} {g t : Nat} {v0 v1 v2 v3 : Value} (h : W.heap[g]? = some (.cells #[v0, v1, v2, v3] t (0, 0))) : W.cell? ⟨g, 0, none⟩ = some v0 ∧ W.cell? ⟨g, 1, none⟩ = some v1 ∧ W.cell? ⟨g, 2, none⟩ = some v2 ∧ W.cell? ⟨g, 3, none⟩ = some v3 ∧ W.frozen? ⟨g, 0, none⟩ = false ∧ W.frozen? ⟨g, 1, none⟩ = false ∧ W.frozen? ⟨g, 2, none⟩ = false ∧ W.frozen? ⟨g, 3, none⟩ = false :=
  ⟨(blk_cell h 0).trans rfl, (blk_cell h 1).trans rfl, (blk_cell h 2).trans rfl, (blk_cell h 3).trans rfl, blk_frozen h 0, blk_frozen h 1, blk_frozen h 2, blk_frozen h 3⟩
theorem six_cells {W : World} {g t : Nat} {v0 v1 v2 v3 v4 v5 : Value} (h : W.heap[g]? = some (.cells #[v0, v1, v2, v3, v4, v5] t (0, 0))) : W.cell? ⟨g, 0, none⟩ = some v0 ∧ W.cell? ⟨g, 1, none⟩ = some v1 ∧ W.cell? ⟨g, 2, none⟩ = some v2 ∧ W.cell? ⟨g, 3, none⟩ = some v3 ∧ W.cell? ⟨g, 4, none⟩ = some v4 ∧ W.cell? ⟨g, 5, none⟩ = some v5 ∧ W.frozen? ⟨g, 0, none⟩ = false ∧ W.frozen? ⟨g, 1, none⟩ = false ∧ W.frozen? ⟨g, 2, none⟩ = false ∧ W.frozen? ⟨g, 3, none⟩ = false ∧ W.frozen? ⟨g, 4, none⟩ = false ∧ W.frozen? ⟨g, 5, none⟩ = false :=
  ⟨(blk_cell h 0).trans rfl, (blk_cell h 1).trans rfl, (blk_cell h 2).trans rfl, (blk_cell h 3).trans rfl, (blk_cell h 4).trans rfl, (blk_cell h 5).trans rfl, blk_frozen h 0, blk_frozen h 1, blk_frozen h 2, blk_frozen h 3, blk_frozen h 4, blk_frozen h 5⟩
theorem seven_cells {W : World} {g t : Nat} {v0 v1 v2 v3 v4 v5 v6 : Value} (h : W.heap[g]? = some (.cells #[v0, v1, v2, v3, v4, v5, v6] t (0, 0))) : W.cell? ⟨g, 0, none⟩ = some v0 ∧ W.cell? ⟨g, 1, none⟩ = some v1 ∧ W.cell? ⟨g, 2, none⟩ = some v2 ∧ W.cell? ⟨g, 3, none⟩ = some v3 ∧ W.cell? ⟨g, 4, none⟩ = some v4 ∧ W.cell? ⟨g, 5, none⟩ = some v5 ∧ W.cell? ⟨g, 6, none⟩ = some v6 ∧ W.frozen? ⟨g, 0, none⟩ = false ∧ W.frozen? ⟨g, 1, none⟩ = false ∧ W.frozen? ⟨g, 2, none⟩ = false ∧ W.frozen? ⟨g, 3, none⟩ = false ∧ W.frozen? ⟨g, 4, none⟩ = false ∧ W.frozen? ⟨g, 5, none⟩ = false ∧ W.frozen? ⟨g, 6, none⟩ = false :=
  ⟨(blk_cell h 0).trans rfl, (blk_cell h 1).trans rfl, (blk_cell h 2).trans rfl, (blk_cell h 3).trans rfl, (blk_cell h 4).trans rfl, (blk_cell h 5).trans rfl, (blk_cell h 6).trans rfl, blk_frozen h 0, blk_frozen h 1, blk_frozen h 2, blk_frozen h 3, blk_frozen h 4, blk_frozen h 5, blk_frozen h 6⟩
theorem five_cells {W : World} {g t : Nat} {v0 v1 v2 v3 v4 : Value} (h : W.heap[g]? = some (.cells #[v0, v1, v2, v3, v4] t (0, 0))) : W.cell? ⟨g, 0, none⟩ = some v0 ∧ W.cell? ⟨g, 1, none⟩ = some v1 ∧ W.cell? ⟨g, 2, none⟩ = some v2 ∧ W.cell? ⟨g, 3, none⟩ = some v3 ∧ W.cell? ⟨g, 4, none⟩ = some v4 ∧ W.frozen? ⟨g, 0, none⟩ = false ∧ W.frozen? ⟨g, 1, none⟩ = false ∧ W.frozen? ⟨g, 2, none⟩ = false ∧ W.frozen? ⟨g, 3, none⟩ = false ∧ W.frozen? ⟨g, 4, none⟩ = false :=
  ⟨(blk_cell h 0).trans rfl, (blk_cell h 1).trans rfl, (blk_cell h 2).trans rfl, (blk_cell h 3).trans rfl, (blk_cell h 4).trans rfl, blk_frozen h 0, blk_frozen h 1, blk_frozen h 2, blk_frozen h 3, blk_frozen h 4⟩
theorem cellfar4_ {w : World} {g b o : Nat} {v0 v1 v2 v3 v : Value} (h : w.cell? ⟨b, o, none⟩ = some v) (hne : b ≠ g) : ((((w.setCell ⟨g, 0, none⟩ v0).setCell ⟨g, 1, none⟩ v1).setCell ⟨g, 2, none⟩ v2).setCell ⟨g, 3, none⟩ v3).cell? ⟨b, o, none⟩ = some v := cellfar_ (cellfar_ (cellfar_ (cellfar_ h hne) hne) hne) hne
theorem cellfar5_ {w : World} {g b o : Nat} {v0 v1 v2 v3 v4 v : Value} (h : w.cell? ⟨b, o, none⟩ = some v) (hne : b ≠ g) : (((((w.setCell ⟨g, 0, none⟩ v0).setCell ⟨g, 1, none⟩ v1).setCell ⟨g, 2, none⟩ v2).setCell ⟨g, 3, none⟩ v3).setCell ⟨g, 4, none⟩ v4).cell? ⟨b, o, none⟩ = some v := cellfar_ (cellfar_ (cellfar_ (cellfar_ (cellfar_ h hne) hne) hne) hne) hne
theorem cellfar6_ {w : World} {g b o : Nat} {v0 v1 v2 v3 v4 v5 v : Value} (h : w.cell? ⟨b, o, none⟩ = some v) (hne : b ≠ g) : ((((((w.setCell ⟨g, 0, none⟩ v0).setCell ⟨g, 1, none⟩ v1).setCell ⟨g, 2, none⟩ v2).setCell ⟨g, 3, none⟩ v3).setCell ⟨g, 4, none⟩ v4).setCell ⟨g, 5, none⟩ v5).cell? ⟨b, o, none⟩ = some v := cellfar_ (cellfar_ (cellfar_ (cellfar_ (cellfar_ (cellfar_ h hne) hne) hne) hne) hne) hne
theorem cellfar7_ {w : World} {g b o : Nat} {v0 v1 v2 v3 v4 v5 v6 v : Value} (h : w.cell? ⟨b, o, none⟩ = some v) (hne : b ≠ g) : (((((((w.setCell ⟨g, 0, none⟩ v0).setCell ⟨g, 1, none⟩ v1).setCell ⟨g, 2, none⟩ v2).setCell ⟨g, 3, none⟩ v3).setCell ⟨g, 4, none⟩ v4).setCell ⟨g, 5, none⟩ v5).setCell ⟨g, 6, none⟩ v6).cell? ⟨b, o, none⟩ = some v := cellfar_ (cellfar_ (cellfar_ (cellfar_ (cellfar_ (cellfar_ (cellfar_ h hne) hne) hne) hne) hne) hne) hne
theorem drewcell_ {W : World} {a : Addr} {v : Value} (h : W.cell? a = some v) : W.drew.cell? a = some v := h
/-! ### who hears, in memory -/
structure Hr where
  room : Int
  data : List Int
  done : Int
  more : List S56
  taken : Int
  en : Int
/-- the hearer at hb, and its rows -/
structure HR (w : World) (base hb : Nat) (vD vM : Value) (h : Hr) : Prop where
  blk : w.heap[hb]? = some (.cells #[.int .i64 h.room, vD, .int .i64 h.done, vM, .int .i64 h.taken, .int .i64 h.en] 99 (0, 0))
  rD : (Kd.int .u8).R 5 w base (fun _ => True) vD h.data
  rM : k56.R 56 w base (fun _ => True) vM h.more
  bf : base ≤ hb
/-- what a method may change -/
def MH (hb : Nat) (vD vM : Value) : Nat → Prop := fun k => k = hb ∨ vD.ownBlock = some k ∨ vM.ownBlock = some k
section
variable {w w1 : World} {base hb : Nat} {vD vM : Value} {h : Hr}
theorem HR.below (H : HR w base hb vD vM h) (hB : Below w.heap.size w w1) : HR w1 base hb vD vM h := ⟨blk_below H.blk hB, Kd.R_below H.rD hB, Kd.R_below H.rM hB, H.bf⟩
theorem HR.move (H : HR w base hb vD vM h) (hk : ∀ k, MH hb vD vM k → w1.heap[k]? = w.heap[k]?) : HR w1 base hb vD vM h := ⟨(hk hb (.inl rfl)).trans H.blk, R5_keep H.rD (fun k e => hk k (.inr (.inl e))), RR_keep H.rM (fun k e => hk k (.inr (.inr e))), H.bf⟩
theorem HR.lt (H : HR w base hb vD vM h) : ∀ k, MH hb vD vM k → base ≤ k ∧ k < w.heap.size := by
  rintro k (rfl | e | e)
  · exact ⟨H.bf, blk_lt H.blk⟩
  · exact ⟨Kd.R_base H.rD k e, Kd.R_lt H.rD k e⟩
  · exact ⟨Kd.R_base H.rM k e, Kd.R_lt H.rM k e⟩
theorem HR.nD (H : HR w base hb vD vM h) : some hb ≠ vD.ownBlock := fun e => ne_typed_ (Kd.R_typed H.rD hb e.symm) ⟨_, H.blk⟩ (by decide) rfl
theorem HR.nM (H : HR w base hb vD vM h) : some hb ≠ vM.ownBlock := fun e => ne_typed_ (Kd.R_typed H.rM hb e.symm) ⟨_, H.blk⟩ (by decide) rfl
theorem HR.nDM (H : HR w base hb vD vM h) : ∀ k, vD.ownBlock = some k → vM.ownBlock = some k → False := fun k e e' => ne_typed_ (Kd.R_typed H.rD k e) (Kd.R_typed H.rM k e') (by decide) rfl
theorem HR.setDone (H : HR w base hb vD vM h) (x : Int) : HR (w.setCell ⟨hb, 2, none⟩ (.int .i64 x)) base hb vD vM { h with done := x } := ⟨blk_put H.blk 2 _ rfl, Kd.R_set H.rD H.blk (by decide) _ _, Kd.R_set H.rM H.blk (by decide) _ _, H.bf⟩
theorem HR.setTaken (H : HR w base hb vD vM h) (x : Int) : HR (w.setCell ⟨hb, 4, none⟩ (.int .i64 x)) base hb vD vM { h with taken := x } := ⟨blk_put H.blk 4 _ rfl, Kd.R_set H.rD H.blk (by decide) _ _, Kd.R_set H.rM H.blk (by decide) _ _, H.bf⟩
theorem HR.setEn (H : HR w base hb vD vM h) (x : Int) : HR (w.setCell ⟨hb, 5, none⟩ (.int .i64 x)) base hb vD vM { h with en := x } := ⟨blk_put H.blk 5 _ rfl, Kd.R_set H.rD H.blk (by decide) _ _, Kd.R_set H.rM H.blk (by decide) _ _, H.bf⟩
theorem HR.setMore (H : HR w base hb vD vM h) {v : Value} {m : List S56} (r : k56.R 56 w base (fun _ => True) v m) : HR (w.setCell ⟨hb, 3, none⟩ v) base hb vD v { h with more := m } := ⟨blk_put H.blk 3 _ rfl, Kd.R_set H.rD H.blk (by decide) _ _, Kd.R_set r H.blk (by decide) _ _, H.bf⟩
/-- the data grow, and their cell is written -/
theorem HR.grow (H : HR w base hb vD vM h) {v : Value} {d : List Int} (r : (Kd.int .u8).R 5 w1 base (fun _ => True) v d) (hg : w.grownBy w1 vD.ownBlock) : HR (w1.setCell ⟨hb, 1, none⟩ v) base hb v vM { h with data := d } := by
  have hb1 := (hg.block hb (blk_lt H.blk) H.nD).trans H.blk
  exact ⟨blk_put hb1 1 _ rfl, Kd.R_set r hb1 (by decide) _ _, Kd.R_set (RR_keep H.rM (fun k e => hg.block k (Kd.R_lt H.rM k e) (fun e' => H.nDM k e'.symm e))) hb1 (by decide) _ _, H.bf⟩
/-- a byte is written -/
theorem HR.put {g n c : Nat} (H : HR w base hb (.slice (some ⟨g, 0, none⟩) n c) vM h) (i : Nat) (x : Int) : HR (w.setCell ⟨g, i, none⟩ (.int .u8 x)) base hb (.slice (some ⟨g, 0, none⟩) n c) vM { h with data := h.data.set i x } := by
  obtain ⟨h1, hg⟩ := Kd.R_putg H.rD (i : Int) x
  rw [Int.toNat_natCast] at h1 hg
  exact ⟨(hg.block hb (blk_lt H.blk) H.nD).trans H.blk, h1, RR_keep H.rM (fun k e => hg.block k (Kd.R_lt H.rM k e) (fun e' => H.nDM k e'.symm e)), H.bf⟩
end
/-- one behind another -/
theorem MH_step {w w1 w2 : World} {hb : Nat} {vD vM vD1 vM1 : Value} (h : Gs (MH hb vD vM) w w1) (nD : Nx w vD vD1) (nM : Nx w vM vM1) (k : Gs (MH hb vD1 vM1) w1 w2) : Gs (MH hb vD vM) w w2 := by
  refine ⟨k.os.trans h.os, k.tape.trans h.tape, k.output.trans h.output, Nat.le_trans h.size k.size, fun i hi hm => (k.block i (Nat.lt_of_lt_of_le hi h.size) ?_).trans (h.block i hi hm)⟩
  rintro (e | e | e)
  · exact hm (.inl e)
  · rcases nD with e' | e' | ⟨q, e', hq⟩
    · exact hm (.inr (.inl (e' ▸ e)))
    · rw [e'] at e; cases e
    · rw [e'] at e; injection e with e; omega
  · rcases nM with e' | e' | ⟨q, e', hq⟩
    · exact hm (.inr (.inr (e' ▸ e)))
    · rw [e'] at e; cases e
    · rw [e'] at e; injection e with e; omega
/-- bytes are kept at the places that did not come -/
def keepG (more : List S56) : List Int → Nat → List Int → List Int
  | d, _, [] => d
  | d, p, x :: b => keepG more (if more.any (cameR (p : Int)) then d else d.set p x) (p + 1) b
def extD (d : List Int) (n : Nat) : List Int := d ++ List.replicate (n - d.length) 0
def keepF (more : List S56) (d : List Int) (fr : Nat) (b : List Int) : List Int := keepG more (extD d (fr + b.length)) fr b
theorem keepG_length (more : List S56) : ∀ (b : List Int) (d : List Int) (p : Nat), (keepG more d p b).length = d.length
  | [], d, p => rfl
  | x :: b, d, p => by
    rw [keepG, keepG_length more b]
    split
    · rfl
    · rw [List.length_set]
theorem extD_length (d : List Int) (n : Nat) : (extD d n).length = max d.length n := by
  rw [extD, List.length_append, List.length_replicate]; omega
theorem keepF_length (more : List S56) (d : List Int) (fr : Nat) (b : List Int) : (keepF more d fr b).length = max d.length (fr + b.length) := by rw [keepF, keepG_length, extD_length]
/-- the loop of keep -/
def KeepR (w : World) (base hb pb : Nat) (vD vM : Value) (h : Hr) (fr : Nat) (b : List Int) (fin : List Int) (wr : World) (j : Nat) : Prop :=
  ∃ vD' d, HR wr base hb vD' vM { h with data := d } ∧ Nx w vD vD' ∧ Gs (MH hb vD vM) w wr ∧ wr.heap[pb]? = some (.cells #[.int .i64 (fr : Int)] 3 (0, 0)) ∧ keepG h.more d (fr + j) (b.drop j) = fin ∧ fr + b.length ≤ d.length ∧ d.length ≤ 4000000
set_option maxHeartbeats 8000000 in
set_option maxRecDepth 100000 in
theorem keep_calls {w : World} {base hb : Nat} {vD vM : Value} {h : Hr} (H : HR w base hb vD vM h) (fr : Nat) (A : Option Addr) (cl : Nat) (b : List Int) (hC : ∀ w', Gs (MH hb vD vM) w w' → Kd.C (Kd.int .u8) w' A b.length b) (hfr : fr ≤ 2000000) (hbl : b.length ≤ 10000) (hdl : h.data.length ≤ 2000000) (hml : h.more.length ≤ 10000) :
    Calls Try.prog 55 #[.pointer (some ⟨hb, 0, none⟩), .int .i64 (fr : Int), .slice A b.length cl] w fun e w' => e = .returned (.tuple #[]) ∧ ∃ vD', HR w' base hb vD' vM { h with data := keepF h.more h.data fr b } ∧ Nx w vD vD' ∧ Gs (MH hb vD vM) w w' := by
  have hu1 := Try.underlying56
  have hu2 := Try.underlying99
  have hu3 := Try.underlying24
  have hB0 : Below w.heap.size w (w.alloc (Obj.cells #[.int .i64 (fr : Int)] 3)) := below_alloc (Below.refl _ _) _
  have H1 := Aside0.mk (H.below hB0)
  have HP := Aside0.mk (blk_new w (Obj.cells #[.int .i64 (fr : Int)] 3))
  have HB0 := Aside0.mk hB0
  have H := Aside0.mk H
  have HC := Aside0.mk hC
  have HL := Aside0.mk (And.intro hfr (And.intro hbl (And.intro hdl hml)))
  obtain ⟨AD, cD, hvD⟩ := Kd.R_slice H1.out.rD
  obtain ⟨AM, cM, hvM⟩ := Kd.R_slice H1.out.rM
  subst hvD hvM
  clear hB0 hC hfr hbl hdl hml
  go_enter Try.func55, Try.ntmps55
  go_upto_region 1 with (fail)
  obtain ⟨W1, hW1⟩ : ∃ y, w.alloc (Obj.cells #[.int .i64 (fr : Int)] 3) = y := ⟨_, rfl⟩
  rw [hW1] at H1 HP HB0 ⊢
  clear hW1
  have p0 : W1.cell? ⟨w.heap.size, 0, none⟩ = some (.int .i64 (fr : Int)) := (blk_cell HP.out 0).trans rfl
  have f1 : W1.cell? ⟨hb, 1, none⟩ = some (.slice AD h.data.length cD) := (blk_cell H1.out.blk 1).trans rfl
  have hl := HL.out
  obtain ⟨mo, hmo⟩ : ∃ mo : Int, (fr : Int) + (b.length : Int) - (h.data.length : Int) = mo := ⟨_, rfl⟩
  have hw2 : IntKind.i64.wrap ((fr : Int) + (b.length : Int)) = (fr : Int) + (b.length : Int) := by simp only [i64_w]; unfold wrap64; omega
  have hw3 : IntKind.i64.wrap ((fr : Int) + (b.length : Int) - (h.data.length : Int)) = mo := by rw [← hmo]; simp only [i64_w]; unfold wrap64; omega
  have HMO := Aside0.mk hmo
  clear hmo hl
  go_quiet (fail)
  go_upto_if 21 with (fail)
  have hbn : Below W1.heap.size W1 (W1.drewN nq) := pw_below_drewN (Below.refl _ _) nq
  have H7 := Aside0.mk (H1.out.below hbn)
  have HP7 := Aside0.mk (blk_below HP.out hbn)
  have HB7 := Aside0.mk (below_step HB0.out hbn)
  obtain ⟨W7, hW7⟩ : ∃ y, W1.drewN nq = y := ⟨_, rfl⟩
  rw [hW7] at H7 HP7 HB7 ⊢
  clear hbn hW7 p0 f1 H1 HP HB0 hw2 hw3
  obtain ⟨d1, hd1⟩ : ∃ y, extD h.data (fr + b.length) = y := ⟨_, rfl⟩
  obtain ⟨fin, hfin⟩ : ∃ y, keepG h.more d1 fr b = y := ⟨_, rfl⟩
  have HFIN := Aside0.mk (show keepF h.more h.data fr b = fin by rw [← hfin, ← hd1]; rfl)
  have HD1 := Aside0.mk hd1
  have HFI := Aside0.mk hfin
  clear hd1 hfin
  go_cut [] (fun wc => Aside0 (∃ vD', HR wc base hb vD' (.slice AM h.more.length cM) { h with data := d1 } ∧ Nx w (.slice AD h.data.length cD) vD' ∧ Gs (MH hb (.slice AD h.data.length cD) (.slice AM h.more.length cM)) w wc ∧ wc.heap[w.heap.size]? = some (.cells #[.int .i64 (fr : Int)] 3 (0, 0))))
  case first =>
    by_cases c2 : 0 < mo
    · have k2 : decide (0 < mo) = true := decide_eq_true c2
      have C2 := Aside0.mk c2
      have f1 : W7.cell? ⟨hb, 1, none⟩ = some (.slice AD h.data.length cD) := (blk_cell H7.out.blk 1).trans rfl
      go_wp2_with (first
        | ((with_reducible refine gate_builtin (b := .append) (xs := #[.tmp 26, .tmp 27]) rfl ?_); at_builtin; refine Kd.R_append_zeros (Kd.int .u8) (w0 := W7) base rfl (.tmp 26) (.tmp 27) 24 3 5 (.int .u8 0) 1 rfl Try.underlying24 Try.underlying3 info5 rfl (by decide) (by omega) (.slice AD h.data.length cD) h.data (0 : Int) mo (fun _ => True) rfl rfl rfl (fun _ _ => trivial) H7.out.rD ?a0 (Below.refl _ _) ?aB ?aL ?_; (case a0 => have := C2.out; omega); (case aB => exact Nat.le_trans H7.out.bf (Nat.le_of_lt (blk_lt H7.out.blk))); (case aL => have := HL.out; have := HMO.out; omega); intro v8 w8 ho hb8 hg hat; obtain ⟨A8, c8, e8⟩ := Kd.R_slice ho; subst e8; have HO8 := Aside0.mk ho; have HG8 := Aside0.mk hg; have HA8 := Aside0.mk hat; have hF8 := (hg.block hb (blk_lt H7.out.blk) H7.out.nD).trans H7.out.blk; have q1 : w8.cell? ⟨hb, 1, none⟩ = some (.slice AD h.data.length cD) := (blk_cell hF8 1).trans rfl; have y1 := blk_frozen hF8 1; clear ho hb8 hg hat hF8))
      have hmt : mo.toNat = fr + b.length - h.data.length := by have := HL.out; have := HMO.out; omega
      have H9 := Aside0.mk (H7.out.grow HO8.out HG8.out)
      have ngb : some w.heap.size ≠ (Value.slice AD h.data.length cD).ownBlock := fun e9 => ne_typed_ ⟨_, HP7.out⟩ (Kd.R_typed H7.out.rD _ e9.symm) (by decide) rfl
      have HP9 := Aside0.mk ((set_keep_ w8 hb 1 (.slice A8 (h.data ++ List.replicate mo.toNat 0).length c8) w.heap.size (blk_ne HP7.out H7.out.blk (by decide))).trans ((HG8.out.block w.heap.size (blk_lt HP7.out) ngb).trans HP7.out))
      have HGS9 : Aside0 (Gs (MH hb (.slice AD h.data.length cD) (.slice AM h.more.length cM)) w (w8.setCell ⟨hb, 1, none⟩ (.slice A8 (h.data ++ List.replicate mo.toNat 0).length c8))) := ⟨((Gs.of_below HB7.out).trans (Gs.of_grown HG8.out (fun k e9 => .inr (.inl e9)))).set (.inl (.inl rfl)) 1 _⟩
      have HNX9 : Aside0 (Nx w (.slice AD h.data.length cD) (.slice A8 (h.data ++ List.replicate mo.toNat 0).length c8)) := ⟨by
        rcases HA8.out with h9 | ⟨q, h9, h8⟩
        · exact .inl h9
        · exact .inr (.inr ⟨q, h9, Nat.le_trans HB7.out.size h8⟩)⟩
      clear ngb q1 y1 HO8 HG8 HA8
      go_meet
      case rel =>
        have hD : (h.data ++ List.replicate mo.toNat 0).length = h.data.length + mo.toNat := by rw [List.length_append, List.length_replicate]
        have hE : h.data ++ List.replicate mo.toNat 0 = d1 := by rw [← HD1.out, hmt]; rfl
        rw [hD] at H9 HP9 HGS9 HNX9
        rw [hE] at H9
        exact ⟨⟨_, H9.out, HNX9.out, HGS9.out, HP9.out⟩⟩
    · have k2 : decide (0 < mo) = false := decide_eq_false c2
      have hz : h.data = d1 := by have := HL.out; have := HMO.out; rw [← HD1.out, extD, show fr + b.length - h.data.length = 0 by omega, List.replicate_zero, List.append_nil]
      have HZ := Aside0.mk hz
      have c3 : mo ≤ 0 := by omega
      clear hz
      go_wp2
      go_meet
      case rel =>
        refine ⟨⟨_, ?_, Nx.refl _ _, Gs.of_below HB7.out, HP7.out⟩⟩
        rw [← HZ.out]
        exact H7.out
  case rest =>
    obtain ⟨vD1, hH, hNX, hGS, hP⟩ := hcut.out
    obtain ⟨w9, hw9⟩ : ∃ y : World, y = wc := ⟨_, rfl⟩
    subst hw9
    have hd1l : fr + b.length ≤ d1.length ∧ d1.length ≤ 4000000 := by rw [← HD1.out, extD_length]; have := HL.out; omega
    have H0 : Aside0 (KeepR w base hb w.heap.size (.slice AD h.data.length cD) (.slice AM h.more.length cM) h fr b fin w9 0) := ⟨⟨vD1, d1, hH, hNX, hGS, hP, by rw [Nat.add_zero, List.drop_zero]; exact HFI.out, hd1l.1, hd1l.2⟩⟩
    clear hcut hH hNX hGS hP hd1l H7 HP7 HB7 HFI HD1 HMO
    go_wp2
    go_loopw [33] (fun v33 wr => ∃ j : Nat, j ≤ b.length ∧ v33 = .int .i64 (j : Int) ∧ Aside0 (KeepR w base hb w.heap.size (.slice AD h.data.length cD) (.slice AM h.more.length cM) h fr b fin wr j)) (fun v33 _ => b.length - (intOf v33).toNat)
    case atStart => exact ⟨0, Nat.zero_le _, rfl, H0⟩
    case round =>
      clear H0
      obtain ⟨j, hj, rfl, HR0⟩ := hrel
      obtain ⟨wo, hwo⟩ : ∃ wo : World, wo = wr := ⟨_, rfl⟩
      subst hwo
      by_cases k0 : j < b.length
      · have k0b : decide (j < b.length) = true := decide_eq_true k0
        have k0i : decide ((j : Int) < (b.length : Int)) = true := decide_eq_true (by omega)
        obtain ⟨vD1, d, hH, hNX, hGS, hP, hK, hd1, hd2⟩ := HR0.out
        obtain ⟨ad, rfl, hx⟩ := Kd.at_int (HC.out wo hGS) (j : Int) (by omega) (by omega)
        rw [Int.toNat_natCast] at hx
        obtain ⟨x, hz⟩ : ∃ x, rd b (j : Int) = x := ⟨_, rfl⟩
        rw [hz] at hx
        have hdrop : b.drop j = x :: b.drop (j + 1) := by
          rw [List.drop_eq_getElem_cons k0]
          congr 1
          rw [← hz, rd, Int.toNat_natCast, List.getD_eq_getElem?_getD, List.getElem?_eq_getElem k0]
          rfl
        rw [hdrop, keepG] at hK
        obtain ⟨Wa, hWa⟩ : ∃ y, wo.alloc (Obj.cells #[.int .i64 (j : Int)] 3) = y := ⟨_, rfl⟩
        have hBa : Below wo.heap.size wo Wa := by rw [← hWa]; exact below_alloc (Below.refl _ _) _
        have hI := blk_new wo (Obj.cells #[.int .i64 (j : Int)] 3)
        rw [hWa] at hI
        obtain ⟨gq, capq, hvq, hgq0, hgq1, _⟩ := Kd.R_form hH.rD (by show 0 < d.length; omega)
        obtain ⟨A9, c9, e9⟩ := Kd.R_slice hH.rD
        subst e9
        injection hvq with e1 e2 e3
        subst e1 e3
        have HA := Aside0.mk (hH.below hBa)
        have HPA := Aside0.mk (blk_below hP hBa)
        have HIA := Aside0.mk hI
        have HGA := Aside0.mk (hGS.trans (Gs.of_below hBa))
        have HNX := Aside0.mk hNX
        have HK := Aside0.mk hK
        have HDB := Aside0.mk (And.intro hd1 hd2)
        have HWA := Aside0.mk hWa
        have hpw : IntKind.i64.wrap ((fr : Int) + (j : Int)) = ((fr + j : Nat) : Int) := by have := HL.out; simp only [i64_w]; unfold wrap64; omega
        have HCT := Aside0.mk (came_contains w.heap.size wo.heap.size (fr : Int) (j : Int) ((fr + j : Nat) : Int) AM cM h.more Wa (Kd.R_reads' HA.out.rM).2.2 (by have := HL.out; omega) HPA.out HIA.out hpw)
        have HPW := Aside0.mk hpw
        have f3 : Wa.cell? ⟨hb, 3, none⟩ = some (.slice AM h.more.length cM) := (blk_cell HA.out.blk 3).trans rfl
        clear HR0 hH hNX hGS hP hK hd1 hd2 hz hdrop hWa hBa hI hpw hgq0 hgq1
        obtain ⟨t, ht⟩ : ∃ t, h.more.any (cameR ((fr + j : Nat) : Int)) = t := ⟨_, rfl⟩
        rw [ht] at HK HCT
        clear ht
        go_upto_if 45 with (first
          | ((with_reducible refine gate_callee (f := 60) rfl ?_); refine goesL_ _ rfl rfl Try.func60 (by kernel_rfl) rfl #[.slice AM h.more.length cM, .func (.func 74) #[] #[.pointer (some ⟨w.heap.size, 0, none⟩), .pointer (some ⟨wo.heap.size, 0, none⟩)]] rfl (by (try simp only [List.map_toArray, List.map_cons, List.map_nil]); first | done | rfl) ?_; (try rw [HWA.out]); refine HCT.out.mono ?_; rintro e w5 ⟨rfl, hb5⟩; refine ⟨_, rfl, ?_⟩; have HB5 := Aside0.mk hb5; clear hb5)
          | (rw [HWA.out]))
        have H5 := Aside0.mk (HA.out.below HB5.out)
        have HP5 := Aside0.mk (blk_below HPA.out HB5.out)
        have HI5 := Aside0.mk (blk_below HIA.out HB5.out)
        have HG5 := Aside0.mk (HGA.out.trans (Gs.of_below HB5.out))
        clear HA HPA HIA HGA HWA HCT HB5 f3 HPW hx
        have hbl := HL.out.2.1
        cases t with
        | true =>
          go_wp2
          refine ⟨⟨j + 1, by omega, by go_num, ⟨⟨_, d, H5.out, HNX.out, HG5.out, HP5.out, ?_, HDB.out.1, HDB.out.2⟩⟩⟩, by simp [intOf]; omega⟩
          rw [← HK.out, if_pos rfl, Nat.add_assoc]
        | false =>
          have hk : IntKind.i64.wrap ((fr : Int) + (j : Int)) = ((fr + j : Nat) : Int) := by have := HL.out; simp only [i64_w]; unfold wrap64; omega
          have q0 : w5.cell? ⟨w.heap.size, 0, none⟩ = some (.int .i64 (fr : Int)) := (blk_cell HP5.out 0).trans rfl
          have q1 : w5.cell? ⟨wo.heap.size, 0, none⟩ = some (.int .i64 (j : Int)) := (blk_cell HI5.out 0).trans rfl
          have q2 : w5.cell? ⟨hb, 1, none⟩ = some (.slice (some ⟨gq, 0, none⟩) d.length c9) := (blk_cell H5.out.blk 1).trans rfl
          have hfj : fr + j < d.length := by have := HDB.out; omega
          obtain ⟨y0, y1⟩ := Kd.R_celln 0 H5.out.rD ((fr + j : Nat) : Int) (by omega) (by show ((fr + j : Nat) : Int) < (d.length : Int); omega)
          rw [Int.toNat_natCast] at y0 y1
          have hfi : ((fr + j : Nat) : Int) < (d.length : Int) := by omega
          have h0i : (0 : Int) ≤ ((fr + j : Nat) : Int) := by omega
          go_upto_region 9 with (fail)
          go_still_tail 8, (by kernel_rfl)
          change wpList _ _ _ _ _ w5.drew
          have H6 := Aside0.mk ((H5.out.put (fr + j) x).below (below_drew (Below.refl _ _)))
          have HP6 := Aside0.mk ((set_keep_ w5 gq (fr + j) (.int .u8 x) w.heap.size (fun e9 => ne_typed_ ⟨_, HP5.out⟩ (Kd.R_typed H5.out.rD gq rfl) (by decide) e9)).trans HP5.out)
          have HG6 : Aside0 (Gs (MH hb (.slice AD h.data.length cD) (.slice AM h.more.length cM)) w (w5.setCell ⟨gq, fr + j, none⟩ (.int .u8 x)).drew) := ⟨(HG5.out.set (by
            rcases HNX.out with h9 | h9 | ⟨q, h9, h8⟩
            · exact .inl (.inr (.inl (h9.symm.trans rfl)))
            · exact absurd h9 (by intro h7; cases h7)
            · injection h9 with h9
              exact .inr (by have h7 : gq = q := h9; omega)) _ _).trans (Gs.of_below (below_drew (Below.refl _ _)))⟩
          go_wp2
          refine ⟨⟨j + 1, by omega, by go_num, ⟨⟨_, d.set (fr + j) x, ?_, HNX.out, HG6.out, HP6.out, ?_, ?_, ?_⟩⟩⟩, by simp [intOf]; omega⟩
          · exact H6.out
          · rw [← HK.out, if_neg (by decide), Nat.add_assoc]
          · rw [List.length_set]; exact HDB.out.1
          · rw [List.length_set]; exact HDB.out.2
      · have k0b : decide (j < b.length) = false := decide_eq_false k0
        have k0i : decide ((j : Int) < (b.length : Int)) = false := decide_eq_false (by omega)
        obtain ⟨vD1, d, hH, hNX, hGS, hP, hK, hd1, hd2⟩ := HR0.out
        have hb2 : b.drop j = [] := List.drop_eq_nil_of_le (by omega)
        rw [hb2, keepG] at hK
        subst hK
        have HH := Aside0.mk hH
        have HNX := Aside0.mk hNX
        have HGS := Aside0.mk hGS
        clear HR0 hH hNX hGS hP hd1 hd2 hb2
        go_wp2
        go_end0
        rw [HFIN.out]
        exact ⟨rfl, vD1, HH.out, HNX.out, HGS.out⟩
def beyondF (h : Hr) : Int := if 0 < h.more.length then (h.more.getD (h.more.length - 1) z56).f1 else h.done
set_option maxHeartbeats 8000000 in
set_option maxRecDepth 100000 in
theorem beyond_calls {w : World} {base hb : Nat} {vD vM : Value} {h : Hr} (H : HR w base hb vD vM h) (hml : h.more.length ≤ 10000) :
    Calls Try.prog 53 #[.pointer (some ⟨hb, 0, none⟩)] w fun e w' => e = .returned (.int .i64 (beyondF h)) ∧ w' = w := by
  have hu1 := Try.underlying56
  have hu2 := Try.underlying99
  obtain ⟨AM, cM, hvM⟩ := Kd.R_slice H.rM
  subst hvM
  have f3 : w.cell? ⟨hb, 3, none⟩ = some (.slice AM h.more.length cM) := (blk_cell H.blk 3).trans rfl
  have f2 : w.cell? ⟨hb, 2, none⟩ = some (.int .i64 h.done) := (blk_cell H.blk 2).trans rfl
  have H := Aside0.mk H
  unfold beyondF
  by_cases c : 0 < h.more.length
  · rw [if_pos c]
    obtain ⟨ad, rfl, p0, p1⟩ := at_T56 (Kd.R_reads' H.out.rM).2.2 ((h.more.length - 1 : Nat) : Int) (by omega) (by omega)
    rw [Int.toNat_natCast] at p0 p1
    rw [rd_T56, Int.toNat_natCast] at p0 p1
    obtain ⟨n, hn⟩ : ∃ n, h.more.length = n + 1 := ⟨h.more.length - 1, by omega⟩
    obtain ⟨x, hx⟩ : ∃ x, h.more.getD (h.more.length - 1) z56 = x := ⟨_, rfl⟩
    rw [hx] at p0 p1 ⊢
    rw [hn, Nat.add_sub_cancel] at p0 p1
    rw [hn] at f3
    have hn2 : n ≤ 10000 := by omega
    clear hx hn c hml
    go_enter Try.func53, Try.ntmps53
    go_wp2
    go_ret
    exact ⟨rfl, rfl⟩
  · rw [if_neg c]
    have hn : h.more.length = 0 := by omega
    rw [hn] at f3
    clear hn c hml
    go_enter Try.func53, Try.ntmps53
    go_wp2
    go_ret
    exact ⟨rfl, rfl⟩
def addF (done : Int) (more : List S56) (a b : Int) : Option (Int × List S56 × Int) := hole_Add.f 1000 done more a b
def badA (h : Hr) (fr : Int) (n : Nat) (fin : Bool) : Bool := (decide (0 ≤ h.en) && (decide (fr + n > h.en) || (fin && decide (fr + n ≠ h.en)))) || (fin && decide (beyondF h > fr + n))
def arriveG (h : Hr) (fr : Int) (b : List Int) (fin : Bool) : Option (Int × Hr) :=
  if mx fr h.done < mn (fr + b.length) (h.taken + h.room) then
    (addF h.done h.more (mx fr h.done) (mn (fr + b.length) (h.taken + h.room))).bind fun t =>
      if t.2.2 ≠ 0 then some (t.2.2, h)
      else some (0, { h with data := keepF h.more h.data (mx fr h.done).toNat ((b.take (mn (fr + b.length) (h.taken + h.room) - fr).toNat).drop (mx fr h.done - fr).toNat), done := t.1, more := t.2.1, en := if fin = true then fr + b.length else h.en })
  else some (0, { h with en := if fin = true then fr + b.length else h.en })
/-- an arrival -/
def arriveF (h : Hr) (fr : Int) (b : List Int) (fin : Bool) : Option (Int × Hr) :=
  if fr < 0 ∨ 1048576 ≤ fr ∨ 1048576 ≤ fr + b.length then some (2, h)
  else if 64 < b.length then some (1, h)
  else if badA h fr b.length fin = true then some (10, h)
  else arriveG h fr b fin
/-- the limits within which arrivals are walked -/
def okH (h : Hr) : Prop := (0 ≤ h.room ∧ h.room ≤ 10000) ∧ h.data.length ≤ 1500000 ∧ (0 ≤ h.done ∧ h.done ≤ 1048576) ∧ h.more.length ≤ 1000 ∧ (0 ≤ h.taken ∧ h.taken ≤ 1048576) ∧ (-1 ≤ h.en ∧ h.en ≤ 1048576)
instance (h : Hr) : Decidable (okH h) := by unfold okH; exact inferInstance
/-- what is told behind a method -/
def HPost (w : World) (base hb : Nat) (vD vM : Value) (v : Value) (h' : Hr) (e : Ending) (w' : World) : Prop :=
  e = .returned v ∧ ∃ vD' vM', HR w' base hb vD' vM' h' ∧ Nx w vD vD' ∧ Nx w vM vM' ∧ Gs (MH hb vD vM) w w'
set_option maxHeartbeats 8000000 in
set_option maxRecDepth 100000 in
theorem arrive_calls {w : World} {base hb : Nat} {vD vM : Value} {h : Hr} (H : HR w base hb vD vM h) (kd fr cnt : Int) (fin : Bool) (A : Option Addr) (cl : Nat) (b : List Int) (hcl : b.length ≤ cl) (hC : ∀ w', Gs (MH hb vD vM) w w' → Kd.C (Kd.int .u8) w' A b.length b) (hok : okH h) (hfr : -100000000 ≤ fr ∧ fr ≤ 100000000) (hbl : b.length ≤ 100000) (r : Int × Hr) (hr : arriveF h fr b fin = some r) :
    Calls Try.prog 38 #[.pointer (some ⟨hb, 0, none⟩), .agg #[.int .i64 kd, .int .i64 fr, .slice A b.length cl, .bool fin, .int .i64 cnt]] w (HPost w base hb vD vM (.int .i64 r.1) r.2) := by
  have hu1 := Try.underlying56
  have hu2 := Try.underlying99
  have hu3 := Try.underlying24
  have hu4 := Try.underlying38
  have hB0 : Below w.heap.size w (w.alloc (Obj.cells #[.int .i64 kd, .int .i64 fr, .slice A b.length cl, .bool fin, .int .i64 cnt] 38)) := below_alloc (Below.refl _ _) _
  have H1 := Aside0.mk (H.below hB0)
  have HP := Aside0.mk (blk_new w (Obj.cells #[.int .i64 kd, .int .i64 fr, .slice A b.length cl, .bool fin, .int .i64 cnt] 38))
  have HB0 := Aside0.mk hB0
  have H := Aside0.mk H
  have HC := Aside0.mk hC
  have HQ := Aside0.mk hr
  obtain ⟨hok1, hok2, hok3, hok4, hok5, hok6⟩ := hok
  have HOK := Aside0.mk (And.intro hok1 (And.intro hok2 (And.intro hok3 (And.intro hok4 (And.intro hok5 (And.intro hok6 (And.intro hfr (And.intro hbl hcl))))))))
  obtain ⟨AD, cD, hvD⟩ := Kd.R_slice H1.out.rD
  obtain ⟨AM, cM, hvM⟩ := Kd.R_slice H1.out.rM
  subst hvD hvM
  obtain ⟨tq, hto⟩ : ∃ tq, fr + (b.length : Int) = tq := ⟨_, rfl⟩
  have hw1 : IntKind.i64.wrap (fr + (b.length : Int)) = tq := by rw [← hto]; simp only [i64_w]; unfold wrap64; omega
  have HTO := Aside0.mk hto
  clear hB0 hC hr hok2 hok3 hok4 hok5 hok6 hok1 hfr hbl hcl hto
  go_enter Try.func38, Try.ntmps38
  go_upto_region 1 with (fail)
  obtain ⟨W1, hW1⟩ : ∃ y, w.alloc (Obj.cells #[.int .i64 kd, .int .i64 fr, .slice A b.length cl, .bool fin, .int .i64 cnt] 38) = y := ⟨_, rfl⟩
  rw [hW1] at H1 HP HB0 ⊢
  clear hW1
  have p1 : W1.cell? ⟨w.heap.size, 1, none⟩ = some (.int .i64 fr) := (blk_cell HP.out 1).trans rfl
  have p2 : W1.cell? ⟨w.heap.size, 2, none⟩ = some (.slice A b.length cl) := (blk_cell HP.out 2).trans rfl
  have p3 : W1.cell? ⟨w.heap.size, 3, none⟩ = some (.bool fin) := (blk_cell HP.out 3).trans rfl
  go_upto_block 0 with (fail)
  clear p1 p2 p3
  go_cut [] (fun wc => Aside0 (HR wc base hb (.slice AD h.data.length cD) (.slice AM h.more.length cM) h ∧ wc.heap[w.heap.size]? = some (.cells #[.int .i64 kd, .int .i64 fr, .slice A b.length cl, .bool fin, .int .i64 cnt] 38 (0, 0)) ∧ Below w.heap.size w wc ∧ (0 ≤ fr ∧ fr < 1048576 ∧ tq < 1048576 ∧ b.length ≤ 64) ∧ arriveG h fr b fin = some r))
  case first =>
    have p1 : W1.cell? ⟨w.heap.size, 1, none⟩ = some (.int .i64 fr) := (blk_cell HP.out 1).trans rfl
    have p2 : W1.cell? ⟨w.heap.size, 2, none⟩ = some (.slice A b.length cl) := (blk_cell HP.out 2).trans rfl
    have p3 : W1.cell? ⟨w.heap.size, 3, none⟩ = some (.bool fin) := (blk_cell HP.out 3).trans rfl
    have h0 := HQ.out
    unfold arriveF at h0
    rw [HTO.out] at h0
    by_cases c1 : fr < 0 ∨ 1048576 ≤ fr ∨ 1048576 ≤ tq
    · rw [if_pos c1] at h0
      injection h0 with h0
      subst h0
      clear HQ
      by_cases c2 : fr < 0
      · have k2 : decide (fr < 0) = true := decide_eq_true c2
        clear c1
        go_wp2
        go_ret
        exact ⟨rfl, _, _, H1.out, Nx.refl _ _, Nx.refl _ _, Gs.of_below HB0.out⟩
      · have k2 : decide (fr < 0) = false := decide_eq_false c2
        by_cases c3 : 1048576 ≤ fr
        · have k3 : decide (1048576 ≤ fr) = true := decide_eq_true c3
          clear c1
          go_wp2
          go_ret
          exact ⟨rfl, _, _, H1.out, Nx.refl _ _, Nx.refl _ _, Gs.of_below HB0.out⟩
        · have k3 : decide (1048576 ≤ fr) = false := decide_eq_false c3
          have k4 : decide (1048576 ≤ tq) = true := decide_eq_true (by omega)
          clear c1
          go_wp2
          go_ret
          exact ⟨rfl, _, _, H1.out, Nx.refl _ _, Nx.refl _ _, Gs.of_below HB0.out⟩
    · rw [if_neg c1] at h0
      have hb1 : 0 ≤ fr ∧ fr < 1048576 ∧ tq < 1048576 := by omega
      have k2 : decide (fr < 0) = false := decide_eq_false (by omega)
      have k3 : decide (1048576 ≤ fr) = false := decide_eq_false (by omega)
      have k4 : decide (1048576 ≤ tq) = false := decide_eq_false (by omega)
      by_cases c5 : 64 < b.length
      · rw [if_pos c5] at h0
        injection h0 with h0
        subst h0
        clear HQ
        have k5 : decide (64 < (b.length : Int)) = true := decide_eq_true (by omega)
        clear c1 hb1
        go_wp2
        go_ret
        exact ⟨rfl, _, _, H1.out, Nx.refl _ _, Nx.refl _ _, Gs.of_below HB0.out⟩
      · rw [if_neg c5] at h0
        have k5 : decide (64 < (b.length : Int)) = false := decide_eq_false (by omega)
        have HBD := Aside0.mk (show (0 ≤ fr ∧ fr < 1048576 ∧ tq < 1048576 ∧ b.length ≤ 64) from ⟨hb1.1, hb1.2.1, hb1.2.2, by omega⟩)
        have f5 : W1.cell? ⟨hb, 5, none⟩ = some (.int .i64 h.en) := (blk_cell H1.out.blk 5).trans rfl
        have HBY := Aside0.mk (beyond_calls H1.out (by have := HOK.out; omega))
        have HQ := Aside0.mk h0
        clear h0 c1 hb1 c5
        by_cases e1 : 0 ≤ h.en
        · have q1 : decide (0 ≤ h.en) = true := decide_eq_true e1
          by_cases e2 : tq > h.en
          · have q2 : decide (h.en < tq) = true := decide_eq_true e2
            have h0 := HQ.out
            rw [if_pos (show badA h fr b.length fin = true by unfold badA; rw [HTO.out, q1]; simp [e2])] at h0
            injection h0 with h0
            subst h0
            clear e1 e2 HQ
            go_wp2
            go_ret
            exact ⟨rfl, _, _, H1.out, Nx.refl _ _, Nx.refl _ _, Gs.of_below HB0.out⟩
          · have q2 : decide (h.en < tq) = false := decide_eq_false e2
            cases fin with
            | false =>
              have h0 := HQ.out
              rw [if_neg (show ¬ badA h fr b.length false = true by unfold badA; rw [HTO.out]; simp [e2])] at h0
              have HQ := Aside0.mk h0
              clear h0 e1 e2
              go_wp2
              go_meet
              case rel => exact ⟨⟨H1.out, HP.out, HB0.out, HBD.out, HQ.out⟩⟩
            | true =>
              by_cases e3 : tq = h.en
              · have q3 : (tq == h.en) = true := by simpa using e3
                by_cases e4 : beyondF h > tq
                · have q4 : decide (tq < beyondF h) = true := decide_eq_true e4
                  have h0 := HQ.out
                  rw [if_pos (show badA h fr b.length true = true by unfold badA; rw [HTO.out]; simp [e4])] at h0
                  injection h0 with h0
                  subst h0
                  clear e1 e2 e3 e4 HQ
                  go_wp2_with (go_at_call 53; refine HBY.out.mono ?_; rintro e w5 ⟨rfl, rfl⟩)
                  go_ret
                  exact ⟨rfl, _, _, H1.out, Nx.refl _ _, Nx.refl _ _, Gs.of_below HB0.out⟩
                · have q4 : decide (tq < beyondF h) = false := decide_eq_false e4
                  have h0 := HQ.out
                  rw [if_neg (show ¬ badA h fr b.length true = true by unfold badA; rw [HTO.out]; simp [e2, e3, e4]; omega)] at h0
                  have HQ := Aside0.mk h0
                  clear h0 e1 e2 e3 e4
                  go_wp2_with (go_at_call 53; refine HBY.out.mono ?_; rintro e w5 ⟨rfl, rfl⟩)
                  go_meet
                  case rel => exact ⟨⟨H1.out, HP.out, HB0.out, HBD.out, HQ.out⟩⟩
              · have q3 : (tq == h.en) = false := by simpa using e3
                have h0 := HQ.out
                rw [if_pos (show badA h fr b.length true = true by unfold badA; rw [HTO.out, q1]; simp [e3])] at h0
                injection h0 with h0
                subst h0
                clear e1 e2 e3 HQ
                go_wp2
                go_ret
                exact ⟨rfl, _, _, H1.out, Nx.refl _ _, Nx.refl _ _, Gs.of_below HB0.out⟩
        · have q1 : decide (0 ≤ h.en) = false := decide_eq_false e1
          cases fin with
          | false =>
            have h0 := HQ.out
            rw [if_neg (show ¬ badA h fr b.length false = true by unfold badA; rw [q1]; simp)] at h0
            have HQ := Aside0.mk h0
            clear h0 e1
            go_wp2
            go_meet
            case rel => exact ⟨⟨H1.out, HP.out, HB0.out, HBD.out, HQ.out⟩⟩
          | true =>
            by_cases e4 : beyondF h > tq
            · have q4 : decide (tq < beyondF h) = true := decide_eq_true e4
              have h0 := HQ.out
              rw [if_pos (show badA h fr b.length true = true by unfold badA; rw [HTO.out]; simp [e4])] at h0
              injection h0 with h0
              subst h0
              clear e1 e4 HQ
              go_wp2_with (go_at_call 53; refine HBY.out.mono ?_; rintro e w5 ⟨rfl, rfl⟩)
              go_ret
              exact ⟨rfl, _, _, H1.out, Nx.refl _ _, Nx.refl _ _, Gs.of_below HB0.out⟩
            · have q4 : decide (tq < beyondF h) = false := decide_eq_false e4
              have h0 := HQ.out
              rw [if_neg (show ¬ badA h fr b.length true = true by unfold badA; rw [HTO.out, q1]; simp; omega)] at h0
              have HQ := Aside0.mk h0
              clear h0 e1 e4
              go_wp2_with (go_at_call 53; refine HBY.out.mono ?_; rintro e w5 ⟨rfl, rfl⟩)
              go_meet
              case rel => exact ⟨⟨H1.out, HP.out, HB0.out, HBD.out, HQ.out⟩⟩
  case rest =>
    obtain ⟨hH, hP, hB, hbd, hg⟩ := hcut.out
    obtain ⟨w2, hw2⟩ : ∃ y : World, y = wc := ⟨_, rfl⟩
    subst hw2
    have H2 := Aside0.mk hH
    have HP2 := Aside0.mk hP
    have HB2 := Aside0.mk hB
    have HBD := Aside0.mk hbd
    have HG := Aside0.mk hg
    have p1 : w2.cell? ⟨w.heap.size, 1, none⟩ = some (.int .i64 fr) := (blk_cell hP 1).trans rfl
    have f0 : w2.cell? ⟨hb, 0, none⟩ = some (.int .i64 h.room) := (blk_cell hH.blk 0).trans rfl
    have f2 : w2.cell? ⟨hb, 2, none⟩ = some (.int .i64 h.done) := (blk_cell hH.blk 2).trans rfl
    have f3 : w2.cell? ⟨hb, 3, none⟩ = some (.slice AM h.more.length cM) := (blk_cell hH.blk 3).trans rfl
    have f4 : w2.cell? ⟨hb, 4, none⟩ = some (.int .i64 h.taken) := (blk_cell hH.blk 4).trans rfl
    obtain ⟨lim, hlim⟩ : ∃ y, h.taken + h.room = y := ⟨_, rfl⟩
    have hw5 : IntKind.i64.wrap (h.taken + h.room) = lim := by rw [← hlim]; have := HOK.out; simp only [i64_w]; unfold wrap64; omega
    have HLIM := Aside0.mk hlim
    clear hcut hH hP hB hbd hg hlim H1 HP HB0 HQ hw1
    go_upto_region 9 with (fail)
    go_quiet (fail)
    obtain ⟨n1, hn1⟩ : ∃ y, y = nq := ⟨_, rfl⟩
    subst hn1
    obtain ⟨lo, hlo⟩ : ∃ y, (if fr < h.done then h.done else fr) = y := ⟨_, rfl⟩
    obtain ⟨up, hup⟩ : ∃ y, (if lim < tq then lim else tq) = y := ⟨_, rfl⟩
    rw [hlo, hup]
    have hlo2 : mx fr h.done = lo := by rw [← hlo]; unfold mx; repeat' split <;> omega
    have hup2 : mn (fr + b.length) (h.taken + h.room) = up := by rw [← hup, HTO.out, HLIM.out]; unfold mn; repeat' split <;> omega
    have hlb : fr ≤ lo ∧ 0 ≤ lo ∧ lo ≤ 1048576 ∧ up ≤ tq := by have := HOK.out; have := HBD.out; rw [← hlo, ← hup]; repeat' split <;> omega
    have hg := HG.out
    unfold arriveG at hg
    rw [hlo2, hup2, HTO.out] at hg
    have HG := Aside0.mk hg
    have HLB := Aside0.mk hlb
    clear hlo hup hlo2 hup2 hlb hg hw5
    go_upto_region 10 with (fail)
    go_quiet (fail)
    have hbn : Below w2.heap.size w2 ((w2.drewN n1).drewN nq) := pw_below_drewN (pw_below_drewN (Below.refl _ _) n1) nq
    have H3 := Aside0.mk (H2.out.below hbn)
    have HP3 := Aside0.mk (blk_below HP2.out hbn)
    have HB3 := Aside0.mk (below_step HB2.out hbn)
    obtain ⟨W3, hW3⟩ : ∃ y, (w2.drewN n1).drewN nq = y := ⟨_, rfl⟩
    rw [hW3] at H3 HP3 HB3 ⊢
    clear hbn hW3 p1 f0 f2 f3 f4 H2 HP2 HB2
    go_upto_if 97 with (fail)
    go_cut [8, 9] (fun v8 v9 wc => Aside0 (∃ vD' d' dn m', v8 = .int .i64 dn ∧ HR wc base hb vD' (.slice AM h.more.length cM) { h with data := d' } ∧ k56.R 56 wc base (fun _ => True) v9 m' ∧ Nx w (.slice AD h.data.length cD) vD' ∧ Nx w (.slice AM h.more.length cM) v9 ∧ Gs (MH hb (.slice AD h.data.length cD) (.slice AM h.more.length cM)) w wc ∧ wc.heap[w.heap.size]? = some (.cells #[.int .i64 kd, .int .i64 fr, .slice A b.length cl, .bool fin, .int .i64 cnt] 38 (0, 0)) ∧ r = (0, { h with data := d', done := dn, more := m', en := if fin = true then tq else h.en })))
    case first =>
      by_cases c1 : lo < up
      · have k1 : decide (lo < up) = true := decide_eq_true c1
        have hg := HG.out
        rw [if_pos c1] at hg
        rcases hadd : addF h.done h.more lo up with _ | ⟨dn, m1, e1⟩
        · rw [hadd] at hg; cases hg
        rw [hadd, Option.bind_some] at hg
        dsimp only at hg
        have HAD := Aside0.mk hadd
        have C1 := Aside0.mk c1
        have HG := Aside0.mk hg
        clear hg hadd
        have hADD := hole_Add.calls 1000 h.done AM cM h.more lo up dn m1 e1 W3 (Kd.R_reads' H3.out.rM).2.2 (Kd.R_reads' H3.out.rM).2.1 HAD.out
        have HADD := Aside0.mk hADD
        clear hADD
        go_upto_region 14 with (first
          | ((with_reducible refine gate_callee (f := 54) rfl ?_); refine goesL_ _ rfl rfl Try.func54 (by kernel_rfl) rfl #[.int .i64 h.done, .slice AM h.more.length cM, .agg #[.int .i64 lo, .int .i64 up]] rfl (by (try simp only [List.map_toArray, List.map_cons, List.map_nil]); first | done | rfl) ?_; refine HADD.out.mono ?_; rintro e w5 ⟨v5, rfl, ho5, hb5⟩; refine ⟨_, rfl, ?_⟩; have HO5 := Aside0.mk ho5; have HB5 := Aside0.mk hb5; clear ho5 hb5))
        have H5 := Aside0.mk (H3.out.below HB5.out)
        have HP5 := Aside0.mk (blk_below HP3.out HB5.out)
        have HG5 := Aside0.mk ((Gs.of_below HB3.out : Gs (MH hb (.slice AD h.data.length cD) (.slice AM h.more.length cM)) w W3).trans (Gs.of_below HB5.out))
        have HO5' := Aside0.mk (Kd.R_lower HO5.out (show base ≤ W3.heap.size from Nat.le_trans H3.out.bf (Nat.le_of_lt (blk_lt H3.out.blk))))
        have HN5 : Aside0 (Nx w (.slice AM h.more.length cM) v5) := ⟨by
          rcases Kd.R_base2 HO5.out with h9 | ⟨q, h9, h8⟩
          · exact .inr (.inl h9)
          · exact .inr (.inr ⟨q, h9, Nat.le_trans HB3.out.size h8⟩)⟩
        have HDJ : Aside0 (∀ k, v5.ownBlock = some k → (Value.slice AM h.more.length cM).ownBlock = some k → False) := ⟨fun k e9 e8 => by have h7 := Kd.R_base HO5.out k e9; have h6 := Kd.R_lt H3.out.rM k e8; omega⟩
        clear HADD HB5 HO5 H3 HP3 HB3
        by_cases ce : e1 = 0
        · subst ce
          have hg := HG.out
          rw [if_neg (by decide)] at hg
          injection hg with hg
          have HG := Aside0.mk hg
          clear hg
          have hlb := HLB.out
          have hbd := HBD.out
          obtain ⟨x1, hx1⟩ : ∃ y, lo - fr = y := ⟨_, rfl⟩
          obtain ⟨x2, hx2⟩ : ∃ y, up - fr = y := ⟨_, rfl⟩
          have hto := HTO.out
          have hx0 : 0 ≤ x1 ∧ x1 < x2 ∧ x2 ≤ (b.length : Int) := by omega
          obtain ⟨lon, hlon⟩ : ∃ y : Nat, lo = (y : Int) := ⟨lo.toNat, by omega⟩
          subst hlon
          have hwa : IntKind.i64.wrap ((lon : Int) - fr) = x1 := by rw [hx1]; simp only [i64_w]; unfold wrap64; omega
          have hwb : IntKind.i64.wrap (up - fr) = x2 := by rw [hx2]; simp only [i64_w]; unfold wrap64; omega
          obtain ⟨i0, hi0, _, hsz0, _⟩ := info_parts info5
          have hcl : b.length ≤ cl := HOK.out.2.2.2.2.2.2.2.2
          have hkc := cut_mid (P := Try.prog) 24 5 .i64 .i64 Try.underlying24 hi0 1 hsz0 A b.length cl x1 x2 hx0.1 (by omega) hx0.2.2 hcl
          obtain ⟨A', hA'⟩ : ∃ y, (if cl = x1.toNat then A else A.map (·.add (x1.toNat * 1))) = y := ⟨_, rfl⟩
          obtain ⟨sub, hsub⟩ : ∃ y, (b.take x2.toNat).drop x1.toNat = y := ⟨_, rfl⟩
          have hsl : x2.toNat - x1.toNat = sub.length := by rw [← hsub, List.length_drop, List.length_take]; omega
          have hsc : ∀ w', Gs (MH hb (.slice AD h.data.length cD) (.slice AM h.more.length cM)) w5 w' → Kd.C (Kd.int .u8) w' A' sub.length sub := fun w' hg' => by
            have h9 := Kd.C_mid (k := Kd.int .u8) (c := cl) (HC.out w' (HG5.out.trans hg')) (show x1.toNat ≤ x2.toNat by omega) (by omega) hcl
            rw [hsub] at h9
            rw [← hA']
            exact h9
          rw [hA', hsl] at hkc
          have HKP := Aside0.mk (keep_calls H5.out lon A' (cl - x1.toNat) sub hsc (by omega) (by rw [← hsl]; omega) (by have := HOK.out.2.1; omega) (by have := HOK.out.2.2.2.1; omega))
          have HX : Aside0 ((lon : Int).toNat = lon ∧ (b.take (up - fr).toNat).drop ((lon : Int) - fr).toNat = sub) := ⟨by rw [Int.toNat_natCast]; exact ⟨rfl, by rw [hx1, hx2]; exact hsub⟩⟩
          have q1 : w5.cell? ⟨w.heap.size, 1, none⟩ = some (.int .i64 fr) := (blk_cell HP5.out 1).trans rfl
          have q2 : w5.cell? ⟨w.heap.size, 2, none⟩ = some (.slice A b.length cl) := (blk_cell HP5.out 2).trans rfl
          clear hlb hbd hx1 hx2 hto hA' hsub hsl hsc hcl hsz0 hi0
          go_wp2_with (first
            | ((with_reducible refine gate_callee (f := 55) rfl ?_); refine goesL_ _ rfl rfl Try.func55 (by kernel_rfl) rfl #[.pointer (some ⟨hb, 0, none⟩), .int .i64 (lon : Int), .slice A' sub.length (cl - x1.toNat)] rfl (by (try simp only [List.map_toArray, List.map_cons, List.map_nil]); first | done | rfl) ?_; refine HKP.out.mono ?_; rintro e w7 ⟨rfl, vD7, hH7, hN7, hG7⟩; refine ⟨_, rfl, ?_⟩; have H7 := Aside0.mk hH7; have HN7 := Aside0.mk hN7; have HG7 := Aside0.mk hG7; clear hH7 hN7 hG7))
          go_meet
          case rel =>
            have hg := HG.out
            rw [HX.out.1, HX.out.2] at hg
            have hr7 : k56.R 56 w7 base (fun _ => True) v5 m1 := RR_keep HO5'.out (fun k hk => HG7.out.block k (Kd.R_lt HO5'.out k hk) (by
              rintro (e9 | e9 | e9)
              · exact ne_typed_ (Kd.R_typed HO5'.out k hk) ⟨_, H5.out.blk⟩ (by decide) e9
              · exact ne_typed_ (Kd.R_typed HO5'.out k hk) (Kd.R_typed H5.out.rD k e9) (by decide) rfl
              · exact HDJ.out k hk e9))
            exact ⟨⟨_, _, _, _, rfl, H7.out, hr7, (Nx.refl w _).trans HG5.out.size HN7.out, HN5.out, HG5.out.trans HG7.out, (HG7.out.block w.heap.size (blk_lt HP5.out) (by
              rintro (e9 | e9 | e9)
              · exact blk_ne HP5.out H5.out.blk (by decide) e9
              · exact ne_typed_ ⟨_, HP5.out⟩ (Kd.R_typed H5.out.rD _ e9) (by decide) rfl
              · exact ne_typed_ ⟨_, HP5.out⟩ (Kd.R_typed H5.out.rM _ e9) (by decide) rfl)).trans HP5.out, hg.symm⟩⟩
        · have hg := HG.out
          rw [if_pos ce] at hg
          injection hg with hg
          have HG := Aside0.mk hg
          have ce1 : (e1 == 0) = false := by simpa using ce
          have ce2 : (e1 != 0) = true := by simpa using ce
          clear hg
          go_wp2
          go_ret
          rw [← HG.out]
          exact ⟨rfl, _, _, H5.out, Nx.refl _ _, Nx.refl _ _, HG5.out⟩
      · have k1 : decide (lo < up) = false := decide_eq_false c1
        have hg := HG.out
        rw [if_neg c1] at hg
        injection hg with hg
        have HG := Aside0.mk hg
        have c1' : up ≤ lo := by omega
        clear hg
        go_wp2
        go_meet
        case rel => exact ⟨⟨_, _, _, _, rfl, H3.out, H3.out.rM, Nx.refl _ _, Nx.refl _ _, Gs.of_below HB3.out, HP3.out, HG.out.symm⟩⟩
    case rest =>
      obtain ⟨vD', d', dn, m', rfl, hH, hR, hND, hNM, hGS, hP, hr⟩ := hcut.out
      obtain ⟨w6, hw6⟩ : ∃ y : World, y = wc := ⟨_, rfl⟩
      subst hw6
      obtain ⟨A9, c9, e9⟩ := Kd.R_slice hR
      subst e9
      have H6 := Aside0.mk hH
      have HR6 := Aside0.mk hR
      have HN6 := Aside0.mk (And.intro hND hNM)
      have HG6 := Aside0.mk hGS
      have HP6 := Aside0.mk hP
      have HRR := Aside0.mk hr
      clear hcut hH hR hND hNM hGS hP hr H3 HP3 HB3 HG
      have y2 := blk_frozen H6.out.blk 2
      have y3 := blk_frozen H6.out.blk 3
      have q2 : w6.cell? ⟨hb, 2, none⟩ = some (.int .i64 h.done) := (blk_cell H6.out.blk 2).trans rfl
      have q3 : w6.cell? ⟨hb, 3, none⟩ = some (.slice AM h.more.length cM) := (blk_cell H6.out.blk 3).trans rfl
      go_upto_region 18 with (fail)
      have H7 := Aside0.mk ((H6.out.setDone dn).setMore (Kd.R_set HR6.out H6.out.blk (by decide) 2 (.int .i64 dn)))
      have hne : w.heap.size ≠ hb := blk_ne HP6.out H6.out.blk (by decide)
      have HP7 := Aside0.mk ((set_keep_ (w6.setCell ⟨hb, 2, none⟩ (.int .i64 dn)) hb 3 (.slice A9 m'.length c9) w.heap.size hne).trans ((set_keep_ w6 hb 2 (.int .i64 dn) w.heap.size hne).trans HP6.out))
      have HG7 := Aside0.mk ((HG6.out.set (g := hb) (.inl (.inl rfl)) 2 (.int .i64 dn)).set (g := hb) (.inl (.inl rfl)) 3 (.slice A9 m'.length c9))
      obtain ⟨W7, hW7⟩ : ∃ y, (w6.setCell ⟨hb, 2, none⟩ (.int .i64 dn)).setCell ⟨hb, 3, none⟩ (.slice A9 m'.length c9) = y := ⟨_, rfl⟩
      rw [hW7] at H7 HP7 HG7 ⊢
      clear hW7 y2 y3 q2 q3 HR6 hne HP6 HG6
      have p3 : W7.cell? ⟨w.heap.size, 3, none⟩ = some (.bool fin) := (blk_cell HP7.out 3).trans rfl
      have q5 : W7.cell? ⟨hb, 5, none⟩ = some (.int .i64 h.en) := (blk_cell H7.out.blk 5).trans rfl
      have y5 := blk_frozen H7.out.blk 5
      cases fin with
      | true =>
        go_wp2
        go_ret
        rw [HRR.out]
        exact ⟨rfl, _, _, H7.out.setEn tq, HN6.out.1, HN6.out.2, HG7.out.set (g := hb) (.inl (.inl rfl)) 5 (.int .i64 tq)⟩
      | false =>
        go_wp2
        go_ret
        rw [HRR.out]
        exact ⟨rfl, _, _, H7.out, HN6.out.1, HN6.out.2, HG7.out⟩
/-- what is told of taking: code, data, end -/
def takeF (h : Hr) (cnt : Int) : Option (Int × List Int × Bool × Hr) :=
  if cnt < 0 ∨ 4096 < cnt then some (2, [], false, h)
  else if 0 ≤ mn cnt (h.done - h.taken) ∧ h.taken + mn cnt (h.done - h.taken) ≤ h.data.length then
    some (0, (h.data.take (h.taken + mn cnt (h.done - h.taken)).toNat).drop h.taken.toNat, h.taken + mn cnt (h.done - h.taken) == h.en, { h with taken := h.taken + mn cnt (h.done - h.taken) })
  else none
theorem HR.far {w w' : World} {base hb : Nat} {vD vM : Value} {h : Hr} (H : HR w base hb vD vM h) {g t : Nat} {cs : Array Value} (hg : w.heap[g]? = some (.cells cs t (0, 0))) (h1 : t ≠ 5) (h2 : t ≠ 56) (h3 : t ≠ 99) (hG : Gs (fun k => k = g) w w') : HR w' base hb vD vM h :=
  H.move fun k hk => hG.block k (H.lt k hk).2 (by
    rintro rfl
    rcases hk with e | e | e
    · subst e; exact blk_ne hg H.blk h3 rfl
    · exact ne_typed_ ⟨_, hg⟩ (Kd.R_typed H.rD _ e) h1 rfl
    · exact ne_typed_ ⟨_, hg⟩ (Kd.R_typed H.rM _ e) h2 rfl)
def TakePost (w : World) (base hb : Nat) (vD vM : Value) (r : Int × List Int × Bool × Hr) (e : Ending) (w' : World) : Prop :=
  ∃ v, e = .returned (.agg #[.int .i64 r.1, .int .i64 0, .int .i64 0, .slice none 0 0, v, .bool r.2.2.1]) ∧ (Kd.int .u8).R 5 w' w.heap.size (fun _ => True) v r.2.1 ∧ HR w' base hb vD vM r.2.2.2 ∧ Gs (MH hb vD vM) w w'
set_option maxHeartbeats 8000000 in
set_option maxRecDepth 100000 in
theorem take_calls {w : World} {base hb : Nat} {vD vM : Value} {h : Hr} (H : HR w base hb vD vM h) (cnt : Int) (hok : okH h) (r : Int × List Int × Bool × Hr) (hr : takeF h cnt = some r) :
    Calls Try.prog 39 #[.pointer (some ⟨hb, 0, none⟩), .int .i64 cnt] w (TakePost w base hb vD vM r) := by
  have hu1 := Try.underlying34
  have hu2 := Try.underlying99
  have hu3 := Try.underlying24
  have hB0 : Below w.heap.size w (w.alloc (Obj.cells #[.int .i64 0, .int .i64 0, .int .i64 0, .slice none 0 0, .slice none 0 0, .bool false] 34)) := below_alloc (Below.refl _ _) _
  have H1 := Aside0.mk (H.below hB0)
  have HP := Aside0.mk (blk_new w (Obj.cells #[.int .i64 0, .int .i64 0, .int .i64 0, .slice none 0 0, .slice none 0 0, .bool false] 34))
  have HB0 := Aside0.mk hB0
  have H := Aside0.mk H
  have HQ := Aside0.mk hr
  obtain ⟨hok1, hok2, hok3, hok4, hok5, hok6⟩ := hok
  have HOK := Aside0.mk (And.intro hok1 (And.intro hok2 (And.intro hok3 (And.intro hok4 (And.intro hok5 hok6)))))
  obtain ⟨AD, cD, hvD⟩ := Kd.R_slice H1.out.rD
  obtain ⟨AM, cM, hvM⟩ := Kd.R_slice H1.out.rM
  subst hvD hvM
  clear hB0 hr hok2 hok3 hok4 hok5 hok6 hok1
  go_enter Try.func39, Try.ntmps39
  go_upto_region 1 with (fail)
  obtain ⟨W1, hW1⟩ : ∃ y, w.alloc (Obj.cells #[.int .i64 0, .int .i64 0, .int .i64 0, .slice none 0 0, .slice none 0 0, .bool false] 34) = y := ⟨_, rfl⟩
  rw [hW1] at H1 HP HB0 ⊢
  clear hW1
  have h0 := HQ.out
  unfold takeF at h0
  by_cases c1 : cnt < 0 ∨ 4096 < cnt
  · rw [if_pos c1] at h0
    injection h0 with h0
    subst h0
    clear HQ
    have y0 := blk_frozen HP.out 0
    have y1 := blk_frozen HP.out 1
    have y2 := blk_frozen HP.out 2
    have y3 := blk_frozen HP.out 3
    have y4 := blk_frozen HP.out 4
    have y5 := blk_frozen HP.out 5
    have p0 : W1.cell? ⟨w.heap.size, 0, none⟩ = some (.int .i64 0) := (blk_cell HP.out 0).trans rfl
    have p1 : W1.cell? ⟨w.heap.size, 1, none⟩ = some (.int .i64 0) := (blk_cell HP.out 1).trans rfl
    have p2 : W1.cell? ⟨w.heap.size, 2, none⟩ = some (.int .i64 0) := (blk_cell HP.out 2).trans rfl
    have p3 : W1.cell? ⟨w.heap.size, 3, none⟩ = some (.slice none 0 0) := (blk_cell HP.out 3).trans rfl
    have p4 : W1.cell? ⟨w.heap.size, 4, none⟩ = some (.slice none 0 0) := (blk_cell HP.out 4).trans rfl
    have p5 : W1.cell? ⟨w.heap.size, 5, none⟩ = some (.bool false) := (blk_cell HP.out 5).trans rfl
    by_cases c2 : cnt < 0
    · have k2 : decide (cnt < 0) = true := decide_eq_true c2
      clear c1
      go_wp2
      rw [put6_eq]
      have hb := set_all_ HP.out [.int .i64 2, .int .i64 0, .int .i64 0, .slice none 0 0, .slice none 0 0, .bool false] rfl
      have hg := gs_setCells_ w.heap.size [.int .i64 2, .int .i64 0, .int .i64 0, .slice none 0 0, .slice none 0 0, .bool false] 0 W1 W1 (Gs.refl _ _)
      exact bodyPost_ret (results_cell_row rfl _ _ w.heap.size 34 _ (0, 0) _ rfl hb Try.underlying34 rfl (by kernel_rfl)) rfl ⟨_, rfl, Kd.R_nil _ _ _ _ _, H1.out.far HP.out (by decide) (by decide) (by decide) hg, Gs.of_below ⟨hg.os.trans HB0.out.os, hg.tape.trans HB0.out.tape, hg.output.trans HB0.out.output, Nat.le_trans HB0.out.size hg.size, fun k hk => (hg.block k (Nat.lt_of_lt_of_le hk HB0.out.size) (Nat.ne_of_lt hk)).trans (HB0.out.block k hk)⟩⟩
    · have k2 : decide (cnt < 0) = false := decide_eq_false c2
      have k3 : decide (4096 < cnt) = true := decide_eq_true (by omega)
      clear c1
      go_wp2
      rw [put6_eq]
      have hb := set_all_ HP.out [.int .i64 2, .int .i64 0, .int .i64 0, .slice none 0 0, .slice none 0 0, .bool false] rfl
      have hg := gs_setCells_ w.heap.size [.int .i64 2, .int .i64 0, .int .i64 0, .slice none 0 0, .slice none 0 0, .bool false] 0 W1 W1 (Gs.refl _ _)
      exact bodyPost_ret (results_cell_row rfl _ _ w.heap.size 34 _ (0, 0) _ rfl hb Try.underlying34 rfl (by kernel_rfl)) rfl ⟨_, rfl, Kd.R_nil _ _ _ _ _, H1.out.far HP.out (by decide) (by decide) (by decide) hg, Gs.of_below ⟨hg.os.trans HB0.out.os, hg.tape.trans HB0.out.tape, hg.output.trans HB0.out.output, Nat.le_trans HB0.out.size hg.size, fun k hk => (hg.block k (Nat.lt_of_lt_of_le hk HB0.out.size) (Nat.ne_of_lt hk)).trans (HB0.out.block k hk)⟩⟩
  · rw [if_neg c1] at h0
    have k2 : decide (cnt < 0) = false := decide_eq_false (by omega)
    have k3 : decide (4096 < cnt) = false := decide_eq_false (by omega)
    obtain ⟨n, hn⟩ : ∃ y, (if h.done - h.taken < cnt then h.done - h.taken else cnt) = y := ⟨_, rfl⟩
    have hn2 : mn cnt (h.done - h.taken) = n := by rw [← hn]; unfold mn; repeat' split <;> omega
    rw [hn2] at h0
    by_cases c4 : 0 ≤ n ∧ h.taken + n ≤ h.data.length
    case neg => rw [if_neg c4] at h0; cases h0
    rw [if_pos c4] at h0
    injection h0 with h0
    have HRR := Aside0.mk h0
    have HC4 := Aside0.mk c4
    have hw1 : IntKind.i64.wrap (h.done - h.taken) = h.done - h.taken := by have := HOK.out; simp only [i64_w]; unfold wrap64; omega
    have f2 : W1.cell? ⟨hb, 2, none⟩ = some (.int .i64 h.done) := (blk_cell H1.out.blk 2).trans rfl
    have f4 : W1.cell? ⟨hb, 4, none⟩ = some (.int .i64 h.taken) := (blk_cell H1.out.blk 4).trans rfl
    clear c1 h0 hn2 HQ c4
    go_upto_region 3 with (fail)
    go_quiet (fail)
    have hbn : Below W1.heap.size W1 (W1.drewN nq) := pw_below_drewN (Below.refl _ _) nq
    have H3 := Aside0.mk (H1.out.below hbn)
    have HP3 := Aside0.mk (blk_below HP.out hbn)
    have HB3 := Aside0.mk (below_step HB0.out hbn)
    obtain ⟨W3, hW3⟩ : ∃ y, W1.drewN nq = y := ⟨_, rfl⟩
    rw [hW3] at H3 HP3 HB3 ⊢
    clear hbn hW3 f2 f4 H1 HP HB0 hn hw1
    go_upto_region 4 with (fail)
    obtain ⟨tk, htk⟩ : ∃ y, h.taken = y := ⟨_, rfl⟩
    obtain ⟨up, hup⟩ : ∃ y, tk + n = y := ⟨_, rfl⟩
    have hu0 : 0 ≤ tk ∧ tk ≤ up ∧ up ≤ (h.data.length : Int) := by have := HC4.out; have := HOK.out; rw [← hup, ← htk]; omega
    have hwu : IntKind.i64.wrap (tk + n) = up := by rw [hup]; have := HOK.out; simp only [i64_w]; unfold wrap64; omega
    obtain ⟨i0, hi0, _, hsz0, _⟩ := info_parts info5
    have hrd := Kd.R_reads' H3.out.rD
    have hkc := cut_mid (P := Try.prog) 24 5 .i64 .i64 Try.underlying24 hi0 1 hsz0 AD h.data.length cD tk up hu0.1 hu0.2.1 hu0.2.2 hrd.2.1
    obtain ⟨A', hA'⟩ : ∃ y, (if cD = tk.toNat then AD else AD.map (·.add (tk.toNat * 1))) = y := ⟨_, rfl⟩
    obtain ⟨sub, hsub⟩ : ∃ y, (h.data.take up.toNat).drop tk.toNat = y := ⟨_, rfl⟩
    have hsl : up.toNat - tk.toNat = sub.length := by rw [← hsub, List.length_drop, List.length_take]; omega
    have hsc : ∀ w', Kd.C (Kd.int .u8) w' AD h.data.length h.data → Kd.C (Kd.int .u8) w' A' sub.length sub := fun w' hg' => by
      have h9 := Kd.C_mid (k := Kd.int .u8) (c := cD) hg' (show tk.toNat ≤ up.toNat by omega) (by omega) hrd.2.1
      rw [hsub] at h9
      rw [← hA']
      exact h9
    rw [hA', hsl] at hkc
    have hslc : sub.length ≤ cD - tk.toNat := by rw [← hsl]; have := hrd.2.1; omega
    have hsm : sub.length ≤ 2000000 := by have := HOK.out; rw [← hsl]; omega
    have HCL : Aside0 (∀ W, Kd.C (Kd.int .u8) W AD h.data.length h.data → Calls Try.prog 56 #[.slice A' sub.length (cD - tk.toNat)] W fun e w' => ∃ v0_ : Value, e = .returned v0_ ∧ Kd.R (Kd.int .u8) 5 w' W.heap.size (fun _ => True) v0_ sub ∧ Below W.heap.size W w') := ⟨fun W hC =>
      slices_Clone_byte_byte.calls A' (cD - tk.toNat) sub sub W (hsc W hC) hslc (by unfold slices_Clone_byte_byte.f; rw [Option.bind_some, if_pos (by simp; omega), List.nil_append])⟩
    have HS := Aside0.mk (show h.taken = tk ∧ tk + n = up ∧ (h.data.take up.toNat).drop tk.toNat = sub from ⟨htk, hup, hsub⟩)
    have f1 : W3.cell? ⟨hb, 1, none⟩ = some (.slice AD h.data.length cD) := (blk_cell H3.out.blk 1).trans rfl
    have f4 : W3.cell? ⟨hb, 4, none⟩ = some (.int .i64 tk) := (blk_cell H3.out.blk 4).trans (by rw [← htk]; rfl)
    have HU := Aside0.mk hu0
    clear htk hup hu0 hA' hsub hsl hsc hslc hsm hrd hsz0 hi0
    go_cut [6] (fun v6 wc => ∃ tb, v6 = .pointer (some ⟨tb, 0, none⟩) ∧ Aside0 (∃ v, wc.heap[tb]? = some (.cells #[.int .i64 0, .int .i64 0, .int .i64 0, .slice none 0 0, v, .bool false] 34 (0, 0)) ∧ W3.heap.size ≤ tb ∧ (Kd.int .u8).R 5 wc W3.heap.size (fun _ => True) v sub ∧ Below W3.heap.size W3 wc))
    case first =>
      have HC1 := Aside0.mk (HCL.out W3.drew (Kd.C_drew (Kd.R_reads' H3.out.rD).2.2))
      have HC2 := Aside0.mk (HCL.out (W3.drew.alloc (Obj.cells #[.int .i64 0, .int .i64 0, .int .i64 0, .slice none 0 0, .slice none 0 0, .bool false] 34)) (Kd.C_alloc (Kd.C_drew (Kd.R_reads' H3.out.rD).2.2) _))
      have HN2 := Aside0.mk (blk_new W3.drew (Obj.cells #[.int .i64 0, .int .i64 0, .int .i64 0, .slice none 0 0, .slice none 0 0, .bool false] 34))
      have hne : hb ≠ W3.heap.size := by have := blk_lt H3.out.blk; omega
      go_region_held3 (fun w' => w'.cell? ⟨hb, 1, none⟩ = some (.slice AD h.data.length cD) ∧ w'.cell? ⟨hb, 4, none⟩ = some (.int .i64 tk)) (first | (with_reducible exact ⟨f1, f4⟩) | (with_reducible exact ⟨r1, r4⟩) | (with_reducible exact ⟨cellfar6_ r1 hne, cellfar6_ r4 hne⟩) | go_keep)
        (first
          | (go_at_call 56; refine HC1.out.mono ?_; rintro e w4 ⟨v4, rfl, ho4, hb0⟩; obtain ⟨A4, c4, e4⟩ := Kd.R_slice ho4; subst e4; have hb4 : Below W3.heap.size W3 w4 := (Below.refl _ W3).drew.trans hb0; have HO4 := Aside0.mk (show (Kd.int .u8).R 5 w4 W3.heap.size (fun _ => True) (.slice A4 sub.length c4) sub from ho4); have HB4 := Aside0.mk hb4; have r1 := pw_cell_below hb4 f1; have r4 := pw_cell_below hb4 f4; clear ho4 hb0 hb4)
          | (go_at_call 56; refine HC2.out.mono ?_; rintro e w4 ⟨v4, rfl, ho4, hb0⟩; obtain ⟨A4, c4, e4⟩ := Kd.R_slice ho4; subst e4; have hb4 : Below W3.heap.size W3 w4 := ((Below.refl _ W3).drew.alloc (Nat.le_refl _) _).trans (hb0.mono (by simp)); have hN4 : w4.heap[W3.heap.size]? = some (.cells #[.int .i64 0, .int .i64 0, .int .i64 0, .slice none 0 0, .slice none 0 0, .bool false] 34 (0, 0)) := blk_below HN2.out hb0; have HN4 := Aside0.mk hN4; have HO4 := Aside0.mk ho4; have HB4 := Aside0.mk hb4; have r1 := pw_cell_below hb4 f1; have r4 := pw_cell_below hb4 f4; obtain ⟨z0, z1, z2, z3, z4, z5, y0, y1, y2, y3, y4, y5⟩ := six_cells hN4; clear ho4 hb0 hb4 hN4))
      · go_wp2
        go_meet
        case rel => exact ⟨_, rfl, ⟨_, blk_new _ _, HB4.out.size, Kd.R_below HO4.out (below_alloc (Below.refl _ _) _), below_alloc HB4.out _⟩⟩
      · rw [put6_eq]
        have hg := gs_setCells_ W3.heap.size [.int .i64 0, .int .i64 0, .int .i64 0, .slice none 0 0, .slice A4 sub.length c4, .bool false] 0 w4 w4 (Gs.refl _ _)
        have hb := set_all_ HN4.out [.int .i64 0, .int .i64 0, .int .i64 0, .slice none 0 0, .slice A4 sub.length c4, .bool false] rfl
        have hr : (Kd.int .u8).R 5 (w4.setCells W3.heap.size 0 [.int .i64 0, .int .i64 0, .int .i64 0, .slice none 0 0, .slice A4 sub.length c4, .bool false]) W3.heap.size (fun _ => True) (.slice A4 sub.length c4) sub :=
          R5_keep (Kd.R_lower HO4.out (by simp)) (fun k hk => hg.block k (Kd.R_lt HO4.out k hk) (by have h9 := Kd.R_base HO4.out k hk; simp at h9; omega))
        have hbl : Below W3.heap.size W3 (w4.setCells W3.heap.size 0 [.int .i64 0, .int .i64 0, .int .i64 0, .slice none 0 0, .slice A4 sub.length c4, .bool false]) := ⟨hg.os.trans HB4.out.os, hg.tape.trans HB4.out.tape, hg.output.trans HB4.out.output, Nat.le_trans HB4.out.size hg.size, fun k hk => (hg.block k (Nat.lt_of_lt_of_le hk HB4.out.size) (Nat.ne_of_lt hk)).trans (HB4.out.block k hk)⟩
        have HB9 := Aside0.mk hb
        have HR9 := Aside0.mk hr
        have HL9 := Aside0.mk hbl
        clear hg hb hr hbl
        go_wp2
        go_meet
        case rel => exact ⟨_, rfl, ⟨_, HB9.out, Nat.le_refl _, HR9.out, HL9.out⟩⟩
    case rest =>
      obtain ⟨tb, rfl, hc⟩ := hcut
      obtain ⟨v4, hT, htb, hR, hBl⟩ := hc.out
      obtain ⟨w5, hw5⟩ : ∃ y : World, y = wc := ⟨_, rfl⟩
      subst hw5
      obtain ⟨A4, c4, e4⟩ := Kd.R_slice hR
      subst e4
      have HT := Aside0.mk hT
      have HTB := Aside0.mk htb
      have HRV := Aside0.mk hR
      have H5 := Aside0.mk (H3.out.below hBl)
      have HP5 := Aside0.mk (blk_below HP3.out hBl)
      have HB5 := Aside0.mk (below_step HB3.out hBl)
      have HSZ := Aside0.mk (show w.heap.size + 1 ≤ W3.heap.size from blk_lt HP3.out)
      clear hc hT htb hR hBl f1 f4 H3 HP3 HB3 HCL
      have q4 : w5.cell? ⟨hb, 4, none⟩ = some (.int .i64 tk) := (blk_cell H5.out.blk 4).trans (by rw [← HS.out.1]; rfl)
      have y4 := blk_frozen H5.out.blk 4
      go_upto_region 5 with (fail)
      go_upto_region 6 with (fail)
      have ntb : tb ≠ hb := blk_ne HT.out H5.out.blk (by decide)
      have nres : w.heap.size ≠ hb := blk_ne HP5.out H5.out.blk (by decide)
      have H6 := Aside0.mk (H5.out.setTaken up)
      have HT6 := Aside0.mk ((set_keep_ w5 hb 4 (.int .i64 up) tb ntb).trans HT.out)
      have HP6 := Aside0.mk ((set_keep_ w5 hb 4 (.int .i64 up) w.heap.size nres).trans HP5.out)
      have HR6 := Aside0.mk (Kd.R_set HRV.out H5.out.blk (by decide) 4 (.int .i64 up))
      have HG6 := Aside0.mk ((Gs.of_below HB5.out : Gs (MH hb (.slice AD h.data.length cD) (.slice AM h.more.length cM)) w w5).set (g := hb) (.inl (.inl rfl)) 4 (.int .i64 up))
      obtain ⟨W6, hW6⟩ : ∃ y, w5.setCell ⟨hb, 4, none⟩ (.int .i64 up) = y := ⟨_, rfl⟩
      rw [hW6] at H6 HT6 HP6 HR6 HG6 ⊢
      clear hW6 q4 y4 H5 HT HP5 HRV ntb nres HB5
      have q4 : W6.cell? ⟨hb, 4, none⟩ = some (.int .i64 up) := (blk_cell H6.out.blk 4).trans rfl
      have q5 : W6.cell? ⟨hb, 5, none⟩ = some (.int .i64 h.en) := (blk_cell H6.out.blk 5).trans rfl
      have t5 : W6.cell? ⟨tb, 5, none⟩ = some (.bool false) := (blk_cell HT6.out 5).trans rfl
      have y5 := blk_frozen HT6.out 5
      obtain ⟨be, hbe⟩ : ∃ y, (up == h.en) = y := ⟨_, rfl⟩
      go_still_tail 9, (by kernel_rfl)
      change wpList _ _ _ _ _ W6.drew
      have hbd : Below W6.heap.size W6 W6.drew := below_drew (Below.refl _ _)
      have H6 := Aside0.mk (H6.out.below hbd)
      have HT6 := Aside0.mk (blk_below HT6.out hbd)
      have HP6 := Aside0.mk (blk_below HP6.out hbd)
      have HR6 := Aside0.mk (Kd.R_below HR6.out hbd)
      have HG6 := Aside0.mk (HG6.out.trans (Gs.of_below hbd))
      obtain ⟨Wd, hWd⟩ : ∃ y, W6.drew = y := ⟨_, rfl⟩
      rw [hWd] at H6 HT6 HP6 HR6 HG6 ⊢
      clear hWd hbd q4 q5 t5 y5
      have ntb : tb ≠ hb := blk_ne HT6.out H6.out.blk (by decide)
      have nrt : w.heap.size ≠ tb := by have := HTB.out; have := HSZ.out; omega
      have hT7 : (Wd.setCell ⟨tb, 5, none⟩ (.bool be)).heap[tb]? = some (.cells #[.int .i64 0, .int .i64 0, .int .i64 0, .slice none 0 0, .slice A4 sub.length c4, .bool be] 34 (0, 0)) := blk_put HT6.out 5 (.bool be) rfl
      have hgt : Gs (fun k => k = tb) Wd (Wd.setCell ⟨tb, 5, none⟩ (.bool be)) := (Gs.refl (fun k => k = tb) Wd).set (.inl rfl) 5 (.bool be)
      have H7 := Aside0.mk (H6.out.far HT6.out (by decide) (by decide) (by decide) hgt)
      have HP7 := Aside0.mk ((hgt.block w.heap.size (blk_lt HP6.out) nrt).trans HP6.out)
      have HR7 := Aside0.mk (R5_keep HR6.out (fun k hk => hgt.block k (Kd.R_lt HR6.out k hk) (fun e9 => by subst e9; exact ne_typed_ (Kd.R_typed HR6.out _ hk) ⟨_, HT6.out⟩ (by decide) rfl)))
      have HG7 := Aside0.mk (HG6.out.set (g := tb) (.inr (by have := HTB.out; have := HSZ.out; omega)) 5 (.bool be))
      have t5 : Wd.cell? ⟨tb, 5, none⟩ = some (.bool false) := (blk_cell HT6.out 5).trans rfl
      have y5 := blk_frozen HT6.out 5
      obtain ⟨z0, z1, z2, z3, z4, z5, x0, x1, x2, x3, x4, x5⟩ := six_cells hT7
      obtain ⟨p0, p1, p2, p3, p4, p5, g0, g1, g2, g3, g4, g5⟩ := six_cells HP7.out
      go_upto_region 7 with (fail)
      obtain ⟨W7, hW7⟩ : ∃ y, Wd.setCell ⟨tb, 5, none⟩ (.bool be) = y := ⟨_, rfl⟩
      rw [hW7] at H7 HP7 HR7 HG7 z0 z1 z2 z3 z4 z5 p0 p1 p2 p3 p4 p5 g0 g1 g2 g3 g4 g5 ⊢
      clear hW7 hT7 hgt t5 y5 x0 x1 x2 x3 x4 x5
      go_wp2
      rw [put6_eq]
      have hg := gs_setCells_ w.heap.size [.int .i64 0, .int .i64 0, .int .i64 0, .slice none 0 0, .slice A4 sub.length c4, .bool be] 0 W7 W7 (Gs.refl _ _)
      have hb := set_all_ HP7.out [.int .i64 0, .int .i64 0, .int .i64 0, .slice none 0 0, .slice A4 sub.length c4, .bool be] rfl
      have hr : (Kd.int .u8).R 5 (W7.setCells w.heap.size 0 [.int .i64 0, .int .i64 0, .int .i64 0, .slice none 0 0, .slice A4 sub.length c4, .bool be]) w.heap.size (fun _ => True) (.slice A4 sub.length c4) sub :=
        R5_keep (Kd.R_lower HR7.out (Nat.le_of_succ_le HSZ.out)) (fun k hk => hg.block k (Kd.R_lt HR7.out k hk) (by have h9 := Kd.R_base HR7.out k hk; have := HSZ.out; omega))
      have hrr := HRR.out
      rw [HS.out.1, HS.out.2.1, HS.out.2.2] at hrr
      rw [← hrr]
      refine bodyPost_ret (results_cell_row rfl _ _ w.heap.size 34 _ (0, 0) _ rfl hb Try.underlying34 rfl (by kernel_rfl)) rfl ⟨_, by rw [hbe], hr, H7.out.far HP7.out (by decide) (by decide) (by decide) hg, ?_⟩
      exact ⟨hg.os.trans HG7.out.os, hg.tape.trans HG7.out.tape, hg.output.trans HG7.out.output, Nat.le_trans HG7.out.size hg.size, fun k hk hm => (hg.block k (Nat.lt_of_lt_of_le hk HG7.out.size) (Nat.ne_of_lt hk)).trans (HG7.out.block k hk hm)⟩
/-- an event: code, last place, data, end -/
def midF (h : Hr) (a : S38) : Option (Int × Int × List Int × Bool × Hr) :=
  if a.f0 = 1 then (arriveF h a.f1 a.f2 a.f3).map fun r => (r.1, a.f1, [], false, r.2)
  else if a.f0 = 2 then (takeF h a.f4).map fun r => (r.1, -1, r.2.1, r.2.2.1, r.2.2.2)
  else some (3, -1, [], false, h)
def ackF (h : Hr) : Int := if h.done = h.en then h.done + 1 else h.done
def doF (h : Hr) (a : S38) : Option (S34 × Hr) :=
  if okH h ∧ (-100000000 ≤ a.f1 ∧ a.f1 ≤ 100000000) ∧ a.f2.length ≤ 100000 then
    (midF h a).bind fun m => if okH m.2.2.2.2 then
      (hole_Sacks.f m.2.2.2.2.done m.2.2.2.2.more m.2.1 3).bind fun s => some (⟨m.1, ackF m.2.2.2.2, m.2.2.2.2.taken + m.2.2.2.2.room - m.2.2.2.2.done, s.1, m.2.2.1, m.2.2.2.1⟩, m.2.2.2.2) else none
  else none
def DoPost (w : World) (base hb : Nat) (vD vM : Value) (r : S34 × Hr) (e : Ending) (w' : World) : Prop :=
  ∃ vD' vM' vS vT, e = .returned (.agg #[.int .i64 r.1.f0, .int .i64 r.1.f1, .int .i64 r.1.f2, vS, vT, .bool r.1.f5]) ∧ HR w' base hb vD' vM' r.2 ∧ Nx w vD vD' ∧ Nx w vM vM' ∧ k56.R 56 w' w.heap.size (fun _ => True) vS r.1.f3 ∧ (Kd.int .u8).R 5 w' w.heap.size (fun _ => True) vT r.1.f4 ∧ (∀ k, vS.ownBlock = some k → vM'.ownBlock = some k → False) ∧ (∀ k, vT.ownBlock = some k → vD'.ownBlock = some k → False) ∧ Gs (MH hb vD vM) w w'
def MidR (w : World) (base hb : Nat) (vD vM : Value) (m : Int × Int × List Int × Bool × Hr) (wc : World) : Prop :=
  ∃ vD' vM' vT, wc.heap[w.heap.size + 1 + 1]? = some (.cells #[.int .i64 m.1, .int .i64 0, .int .i64 0, .slice none 0 0, vT, .bool m.2.2.2.1] 34 (0, 0)) ∧ wc.heap[w.heap.size + 1]? = some (.cells #[.int .i64 0, .int .i64 0, .int .i64 0, .slice none 0 0, .slice none 0 0, .bool false] 34 (0, 0)) ∧ HR wc base hb vD' vM' m.2.2.2.2 ∧ Nx w vD vD' ∧ Nx w vM vM' ∧ (Kd.int .u8).R 5 wc w.heap.size (fun _ => True) vT m.2.2.1 ∧ (∀ k, vT.ownBlock = some k → vD'.ownBlock = some k → False) ∧ Gs (MH hb vD vM) w wc
theorem three_blocks_ (w : World) (a b c : Obj) : (((w.alloc a).alloc b).alloc c).heap[w.heap.size]? = some a ∧ (((w.alloc a).alloc b).alloc c).heap[w.heap.size + 1]? = some b ∧ (((w.alloc a).alloc b).alloc c).heap[w.heap.size + 1 + 1]? = some c := by
  have h1 := heap_alloc_new w a
  have h2 := heap_alloc_new (w.alloc a) b
  have h3 := heap_alloc_new ((w.alloc a).alloc b) c
  have s1 : (w.alloc a).heap.size = w.heap.size + 1 := by simp
  have s2 : ((w.alloc a).alloc b).heap.size = w.heap.size + 1 + 1 := by simp
  have hb2 : Below (w.alloc a).heap.size (w.alloc a) (((w.alloc a).alloc b).alloc c) := below_alloc (below_alloc (Below.refl _ _) _) _
  have hb3 : Below ((w.alloc a).alloc b).heap.size ((w.alloc a).alloc b) (((w.alloc a).alloc b).alloc c) := below_alloc (Below.refl _ _) _
  rw [s1] at h2
  rw [s2] at h3
  exact ⟨(hb2.block w.heap.size (by omega)).trans h1, (hb3.block (w.heap.size + 1) (by omega)).trans h2, h3⟩
/-- new blocks stay as a method runs -/
theorem MH_new {w W w' : World} {base hb : Nat} {vD vM : Value} {h : Hr} (H : HR w base hb vD vM h) (hG : Gs (MH hb vD vM) W w') {k t : Nat} {cs : Array Value} (hk : W.heap[k]? = some (.cells cs t (0, 0))) (hn : w.heap.size ≤ k) : w'.heap[k]? = some (.cells cs t (0, 0)) :=
  (hG.block k (blk_lt hk) (fun e => by have := (H.lt k e).2; omega)).trans hk
/-- all but the told one -/
structure Else5 (w : World) (base hb : Nat) (vD vM vD4 vM4 vT : Value) (h4 : Hr) (data : List Int) (tb : Nat) (wc : World) : Prop where
  res : wc.heap[w.heap.size + 1]? = some (.cells #[.int .i64 0, .int .i64 0, .int .i64 0, .slice none 0 0, .slice none 0 0, .bool false] 34 (0, 0))
  hr : HR wc base hb vD4 vM4 h4
  row : (Kd.int .u8).R 5 wc w.heap.size (fun _ => True) vT data
  gs : Gs (MH hb vD vM) w wc
  ne : w.heap.size + 1 < tb
theorem Else5.set {w : World} {base hb : Nat} {vD vM vD4 vM4 vT : Value} {h4 : Hr} {data : List Int} {tb : Nat} {wc : World} (E : Else5 w base hb vD vM vD4 vM4 vT h4 data tb wc) {cs : Array Value} (hT : wc.heap[tb]? = some (.cells cs 34 (0, 0))) (j : Nat) (u : Value) : Else5 w base hb vD vM vD4 vM4 vT h4 data tb (wc.setCell ⟨tb, j, none⟩ u) :=
  have hg : Gs (fun k => k = tb) wc (wc.setCell ⟨tb, j, none⟩ u) := (Gs.refl (fun k => k = tb) wc).set (.inl rfl) j u
  ⟨(hg.block _ (blk_lt E.res) (Nat.ne_of_lt E.ne)).trans E.res, E.hr.far hT (by decide) (by decide) (by decide) hg, Kd.R_set E.row hT (by decide) j u, E.gs.set (g := tb) (.inr (by have := E.ne; omega)) j u, E.ne⟩
theorem Else5.below {w : World} {base hb : Nat} {vD vM vD4 vM4 vT : Value} {h4 : Hr} {data : List Int} {tb : Nat} {wc w1 : World} (E : Else5 w base hb vD vM vD4 vM4 vT h4 data tb wc) (hB : Below wc.heap.size wc w1) : Else5 w base hb vD vM vD4 vM4 vT h4 data tb w1 :=
  ⟨blk_below E.res hB, E.hr.below hB, Kd.R_below E.row hB, E.gs.trans (Gs.of_below hB), E.ne⟩
set_option maxHeartbeats 8000000 in
set_option maxRecDepth 100000 in
theorem hdo_calls {w : World} {base hb : Nat} {vD vM : Value} {h : Hr} (H : HR w base hb vD vM h) (a : S38) (A : Option Addr) (cl : Nat) (hcl : a.f2.length ≤ cl) (hC : ∀ w', Gs (MH hb vD vM) w w' → Kd.C (Kd.int .u8) w' A a.f2.length a.f2) (r : S34 × Hr) (hr : doF h a = some r) :
    Calls Try.prog 33 #[.pointer (some ⟨hb, 0, none⟩), .agg #[.int .i64 a.f0, .int .i64 a.f1, .slice A a.f2.length cl, .bool a.f3, .int .i64 a.f4]] w (DoPost w base hb vD vM r) := by
  have hu1 := Try.underlying34
  have hu2 := Try.underlying99
  have hu3 := Try.underlying38
  obtain ⟨kd, fr, b, fin, cnt⟩ := a
  simp only at hcl hC ⊢
  unfold doF at hr
  by_cases hok : okH h ∧ (-100000000 ≤ fr ∧ fr ≤ 100000000) ∧ b.length ≤ 100000
  case neg => rw [if_neg hok] at hr; cases hr
  rw [if_pos hok] at hr
  rcases hm : midF h ⟨kd, fr, b, fin, cnt⟩ with _ | m
  · rw [hm] at hr; cases hr
  rw [hm, Option.bind_some] at hr
  by_cases hok2 : okH m.2.2.2.2
  case neg => rw [if_neg hok2] at hr; cases hr
  rw [if_pos hok2] at hr
  rcases hs : hole_Sacks.f m.2.2.2.2.done m.2.2.2.2.more m.2.1 3 with _ | s
  · rw [hs] at hr; cases hr
  rw [hs, Option.bind_some] at hr
  injection hr with hr
  obtain ⟨hok1, hfr, hbl⟩ := hok
  obtain ⟨W3, hW3⟩ : ∃ y, ((w.alloc (Obj.cells #[.int .i64 kd, .int .i64 fr, .slice A b.length cl, .bool fin, .int .i64 cnt] 38)).alloc (Obj.cells #[.int .i64 0, .int .i64 0, .int .i64 0, .slice none 0 0, .slice none 0 0, .bool false] 34)).alloc (Obj.cells #[.int .i64 0, .int .i64 0, .int .i64 0, .slice none 0 0, .slice none 0 0, .bool false] 34) = y := ⟨_, rfl⟩
  have hB3 : Below w.heap.size w W3 := by rw [← hW3]; exact below_alloc (below_alloc (below_alloc (Below.refl _ _) _) _) _
  obtain ⟨hA3, hS3, hT3⟩ := three_blocks_ w (Obj.cells #[.int .i64 kd, .int .i64 fr, .slice A b.length cl, .bool fin, .int .i64 cnt] 38) (Obj.cells #[.int .i64 0, .int .i64 0, .int .i64 0, .slice none 0 0, .slice none 0 0, .bool false] 34) (Obj.cells #[.int .i64 0, .int .i64 0, .int .i64 0, .slice none 0 0, .slice none 0 0, .bool false] 34)
  rw [hW3] at hA3 hS3 hT3
  have H3 := Aside0.mk (H.below hB3)
  have H := Aside0.mk H
  have HA3 := Aside0.mk hA3
  have HS3 := Aside0.mk hS3
  have HT3 := Aside0.mk hT3
  have HB3 := Aside0.mk hB3
  have HW3 := Aside0.mk hW3
  have HC3 : Aside0 (∀ w', Gs (MH hb vD vM) W3 w' → Kd.C (Kd.int .u8) w' A b.length b) := ⟨fun w' hg => hC w' ((Gs.of_below hB3).trans hg)⟩
  have HOK := Aside0.mk hok1
  have HOK2 := Aside0.mk hok2
  have HM := Aside0.mk hm
  have HSK := Aside0.mk hs
  have HRR := Aside0.mk hr
  have HFR := Aside0.mk (And.intro hfr (And.intro hbl hcl))
  clear hA3 hS3 hT3 hB3 hW3 hok1 hok2 hm hs hr hfr hbl hcl hC
  go_enter Try.func33, Try.ntmps33
  go_upto_block 0 with (fail)
  rw [HW3.out]
  clear HW3
  go_cut [6] (fun v6 wc => v6 = .int .i64 m.2.1 ∧ Aside0 (MidR w base hb vD vM m wc))
  case first =>
    have hm := HM.out
    unfold midF at hm
    simp only at hm
    obtain ⟨a0, a1, a2, a3, a4, _, _, _, _, _⟩ := five_cells HA3.out
    obtain ⟨z0, z1, z2, z3, z4, z5, y0, y1, y2, y3, y4, y5⟩ := six_cells HT3.out
    by_cases c1 : kd = 1
    · subst c1
      rw [if_pos rfl] at hm
      rcases ha : arriveF h fr b fin with _ | x
      · rw [ha] at hm; cases hm
      rw [ha] at hm
      injection hm with hm
      subst hm
      have HCA := Aside0.mk (arrive_calls H3.out 1 fr cnt fin A cl b HFR.out.2.2 HC3.out HOK.out HFR.out.1 HFR.out.2.1 x ha)
      clear ha y0 y1 y2 y3 y4 y5
      go_wp2_with (first
        | ((with_reducible refine gate_callee (f := 38) rfl ?_); refine goesL_ _ rfl rfl Try.func38 (by kernel_rfl) rfl #[.pointer (some ⟨hb, 0, none⟩), .agg #[.int .i64 1, .int .i64 fr, .slice A b.length cl, .bool fin, .int .i64 cnt]] rfl (by (try simp only [List.map_toArray, List.map_cons, List.map_nil]); first | done | rfl) ?_; refine HCA.out.mono ?_; rintro e w5 ⟨rfl, vD5, vM5, hH5, hND5, hNM5, hG5⟩; refine ⟨_, rfl, ?_⟩; have hT5 := MH_new H.out hG5 HT3.out (by omega); have hS5 := MH_new H.out hG5 HS3.out (by omega); have hA5 := MH_new H.out hG5 HA3.out (by omega); have HT5 := Aside0.mk hT5; have HS5 := Aside0.mk hS5; have H5 := Aside0.mk hH5; have HN5 := Aside0.mk (And.intro hND5 hNM5); have HG5 := Aside0.mk hG5; have t0 : w5.cell? ⟨w.heap.size + 1 + 1, 0, none⟩ = some (.int .i64 0) := (blk_cell hT5 0).trans rfl; have x0 := blk_frozen hT5 0; have b1 : w5.cell? ⟨w.heap.size, 1, none⟩ = some (.int .i64 fr) := (blk_cell hA5 1).trans rfl; clear hH5 hND5 hNM5 hG5 hT5 hS5 hA5))
      have hT6 : (w5.setCell ⟨w.heap.size + 1 + 1, 0, none⟩ (.int .i64 x.1)).heap[w.heap.size + 1 + 1]? = some (.cells #[.int .i64 x.1, .int .i64 0, .int .i64 0, .slice none 0 0, .slice none 0 0, .bool false] 34 (0, 0)) := blk_put HT5.out 0 (.int .i64 x.1) rfl
      have hS6 := (set_keep_ w5 (w.heap.size + 1 + 1) 0 (.int .i64 x.1) (w.heap.size + 1) (by omega)).trans HS5.out
      have hg6 : Gs (fun k => k = w.heap.size + 1 + 1) w5 (w5.setCell ⟨w.heap.size + 1 + 1, 0, none⟩ (.int .i64 x.1)) := (Gs.refl (fun k => k = w.heap.size + 1 + 1) w5).set (.inl rfl) 0 _
      have hH6 := H5.out.far HT5.out (by decide) (by decide) (by decide) hg6
      have hG6 := ((Gs.of_below HB3.out).trans HG5.out).set (g := w.heap.size + 1 + 1) (.inr (by omega)) 0 (.int .i64 x.1)
      have HT6 := Aside0.mk hT6
      have HS6 := Aside0.mk hS6
      have H6 := Aside0.mk hH6
      have HG6 := Aside0.mk hG6
      have HN6 := Aside0.mk (And.intro ((Nx.refl w vD).trans HB3.out.size HN5.out.1) ((Nx.refl w vM).trans HB3.out.size HN5.out.2))
      clear hT6 hS6 hg6 hH6 hG6
      go_meet
      case rel => exact ⟨rfl, ⟨_, _, _, HT6.out, HS6.out, H6.out, HN6.out.1, HN6.out.2, Kd.R_nil _ _ _ _ _, (fun k e _ => by cases e), HG6.out⟩⟩
    · rw [if_neg c1] at hm
      have k1 : (kd == 1) = false := by simpa using c1
      by_cases c2 : kd = 2
      · subst c2
        rw [if_pos rfl] at hm
        rcases ha : takeF h cnt with _ | x
        · rw [ha] at hm; cases hm
        rw [ha] at hm
        injection hm with hm
        subst hm
        have HCA := Aside0.mk (take_calls H3.out cnt HOK.out x ha)
        clear ha y0 y1 y2 y3 y4 y5 c1
        go_wp2_with (first
          | ((with_reducible refine gate_callee (f := 39) rfl ?_); refine goesL_ _ rfl rfl Try.func39 (by kernel_rfl) rfl #[.pointer (some ⟨hb, 0, none⟩), .int .i64 cnt] rfl (by (try simp only [List.map_toArray, List.map_cons, List.map_nil]); first | done | rfl) ?_; refine HCA.out.mono ?_; rintro e w5 ⟨v5, rfl, hR5, hH5, hG5⟩; refine ⟨_, rfl, ?_⟩; obtain ⟨A5, c5, e5⟩ := Kd.R_slice hR5; subst e5; have hT5 := MH_new H.out hG5 HT3.out (by omega); have hS5 := MH_new H.out hG5 HS3.out (by omega); have HT5 := Aside0.mk hT5; have HS5 := Aside0.mk hS5; have H5 := Aside0.mk hH5; have HR5 := Aside0.mk hR5; have HG5 := Aside0.mk hG5; obtain ⟨t0, t1, t2, t3, t4, t5, x0, x1, x2, x3, x4, x5⟩ := six_cells hT5; clear hH5 hR5 hG5 hT5 hS5))
        rw [put6_eq]
        have hg6 := gs_setCells_ (w.heap.size + 1 + 1) [.int .i64 x.1, .int .i64 0, .int .i64 0, .slice none 0 0, .slice A5 x.2.1.length c5, .bool x.2.2.1] 0 w5 w5 (Gs.refl _ _)
        have hT6 := set_all_ HT5.out [.int .i64 x.1, .int .i64 0, .int .i64 0, .slice none 0 0, .slice A5 x.2.1.length c5, .bool x.2.2.1] rfl
        have hsz : w.heap.size + 1 + 1 < W3.heap.size := blk_lt HT3.out
        have hR6 := R5_keep HR5.out (fun k hk => hg6.block k (Kd.R_lt HR5.out k hk) (by have := Kd.R_base HR5.out k hk; omega))
        have hS6 := (hg6.block (w.heap.size + 1) (blk_lt HS5.out) (by omega)).trans HS5.out
        have hH6 := H5.out.far HT5.out (by decide) (by decide) (by decide) hg6
        have hG6 : Gs (MH hb vD vM) w (w5.setCells (w.heap.size + 1 + 1) 0 [.int .i64 x.1, .int .i64 0, .int .i64 0, .slice none 0 0, .slice A5 x.2.1.length c5, .bool x.2.2.1]) :=
          have h9 := (Gs.of_below HB3.out : Gs (MH hb vD vM) w W3).trans HG5.out
          ⟨hg6.os.trans h9.os, hg6.tape.trans h9.tape, hg6.output.trans h9.output, Nat.le_trans h9.size hg6.size, fun k hk hm => (hg6.block k (Nat.lt_of_lt_of_le hk h9.size) (by omega)).trans (h9.block k hk hm)⟩
        have HDJ : Aside0 (∀ k, (Value.slice A5 x.2.1.length c5).ownBlock = some k → vD.ownBlock = some k → False) := ⟨fun k e9 e8 => by have := Kd.R_base HR5.out k e9; have := (H.out.lt k (.inr (.inl e8))).2; omega⟩
        have HT6 := Aside0.mk hT6
        have HS6 := Aside0.mk hS6
        have H6 := Aside0.mk hH6
        have HG6 := Aside0.mk hG6
        have HR6 := Aside0.mk (Kd.R_lower hR6 (show w.heap.size ≤ W3.heap.size by omega))
        clear hT6 hS6 hg6 hH6 hG6 hR6
        go_meet
        case rel => exact ⟨rfl, ⟨_, _, _, HT6.out, HS6.out, H6.out, Nx.refl _ _, Nx.refl _ _, HR6.out, HDJ.out, HG6.out⟩⟩
      · rw [if_neg c2] at hm
        have k2 : (kd == 2) = false := by simpa using c2
        injection hm with hm
        subst hm
        clear c1 c2
        go_wp2
        have hT6 : (W3.setCell ⟨w.heap.size + 1 + 1, 0, none⟩ (.int .i64 3)).heap[w.heap.size + 1 + 1]? = some (.cells #[.int .i64 3, .int .i64 0, .int .i64 0, .slice none 0 0, .slice none 0 0, .bool false] 34 (0, 0)) := blk_put HT3.out 0 (.int .i64 3) rfl
        have hS6 := (set_keep_ W3 (w.heap.size + 1 + 1) 0 (.int .i64 3) (w.heap.size + 1) (by omega)).trans HS3.out
        have hg6 : Gs (fun k => k = w.heap.size + 1 + 1) W3 (W3.setCell ⟨w.heap.size + 1 + 1, 0, none⟩ (.int .i64 3)) := (Gs.refl (fun k => k = w.heap.size + 1 + 1) W3).set (.inl rfl) 0 _
        have hH6 := H3.out.far HT3.out (by decide) (by decide) (by decide) hg6
        have hG6 : Gs (MH hb vD vM) w (W3.setCell ⟨w.heap.size + 1 + 1, 0, none⟩ (.int .i64 3)) := (Gs.of_below HB3.out).set (g := w.heap.size + 1 + 1) (.inr (by omega)) 0 (.int .i64 3)
        have HT6 := Aside0.mk hT6
        have HS6 := Aside0.mk hS6
        have H6 := Aside0.mk hH6
        have HG6 := Aside0.mk hG6
        clear hT6 hS6 hg6 hH6 hG6
        go_meet
        case rel => exact ⟨rfl, ⟨_, _, _, HT6.out, HS6.out, H6.out, Nx.refl _ _, Nx.refl _ _, Kd.R_nil _ _ _ _ _, (fun k e _ => by cases e), HG6.out⟩⟩
  case rest =>
    obtain ⟨rfl, hc⟩ := hcut
    obtain ⟨vD4, vM4, vT, hT, hS, hH, hND, hNM, hR, hDJ, hG⟩ := hc.out
    obtain ⟨w4, hw4⟩ : ∃ y : World, y = wc := ⟨_, rfl⟩
    subst hw4
    obtain ⟨code, last, data, en, h4⟩ := m
    simp only at hT hH hR
    obtain ⟨AT, cT, eT⟩ := Kd.R_slice hR
    subst eT
    obtain ⟨AM, cM, eM⟩ := Kd.R_slice hH.rM
    subst eM
    have HT4 := Aside0.mk hT
    have HS4 := Aside0.mk hS
    have H4 := Aside0.mk hH
    have HN4 := Aside0.mk (And.intro hND hNM)
    have HR4 := Aside0.mk hR
    have HDJ := Aside0.mk hDJ
    have HG4 := Aside0.mk hG
    have hok := HOK2.out
    simp only [okH] at hok
    have hw1 : IntKind.i64.wrap (h4.taken + h4.room) = h4.taken + h4.room := by simp only [i64_w]; unfold wrap64; omega
    obtain ⟨wx, hwx⟩ : ∃ y : Int, h4.taken + h4.room - h4.done = y := ⟨_, rfl⟩
    have hw2 : IntKind.i64.wrap (h4.taken + h4.room - h4.done) = wx := by rw [← hwx]; simp only [i64_w]; unfold wrap64; omega
    have HWX := Aside0.mk hwx
    clear hwx
    have f0 : w4.cell? ⟨hb, 0, none⟩ = some (.int .i64 h4.room) := (blk_cell hH.blk 0).trans rfl
    have f2 : w4.cell? ⟨hb, 2, none⟩ = some (.int .i64 h4.done) := (blk_cell hH.blk 2).trans rfl
    have f4 : w4.cell? ⟨hb, 4, none⟩ = some (.int .i64 h4.taken) := (blk_cell hH.blk 4).trans rfl
    obtain ⟨t0, t1, t2, t3, t4, t5, x0, x1, x2, x3, x4, x5⟩ := six_cells hT
    have hne : hb ≠ w.heap.size + 1 + 1 := blk_ne hH.blk hT (by decide)
    clear hc hT hS hH hND hNM hR hDJ hG hok HM HC3 H3 HA3 HS3 HT3 HB3
    go_upto_region 10 with (fail)
    go_cut [] (fun wc => Aside0 (wc = ((w4.setCell ⟨w.heap.size + 1 + 1, 1, none⟩ (.int .i64 h4.done)).setCell ⟨w.heap.size + 1 + 1, 2, none⟩ (.int .i64 wx)).drew))
    case first =>
      go_region_held3 (fun w' => w'.cell? ⟨hb, 0, none⟩ = some (.int .i64 h4.room) ∧ w'.cell? ⟨hb, 2, none⟩ = some (.int .i64 h4.done) ∧ w'.cell? ⟨hb, 4, none⟩ = some (.int .i64 h4.taken)) (first | (with_reducible exact ⟨f0, f2, f4⟩) | (with_reducible exact ⟨drewcell_ (cellfar_ f0 hne), drewcell_ (cellfar_ f2 hne), drewcell_ (cellfar_ f4 hne)⟩) | (with_reducible exact ⟨drewcell_ (cellfar_ (cellfar_ f0 hne) hne), drewcell_ (cellfar_ (cellfar_ f2 hne) hne), drewcell_ (cellfar_ (cellfar_ f4 hne) hne)⟩) | go_keep) (fail)
      go_wp2
      go_meet
      case rel => exact ⟨rfl⟩
    case rest =>
      have hT5 : ((w4.setCell ⟨w.heap.size + 1 + 1, 1, none⟩ (.int .i64 h4.done)).setCell ⟨w.heap.size + 1 + 1, 2, none⟩ (.int .i64 wx)).drew.heap[w.heap.size + 1 + 1]? = some (.cells #[.int .i64 code, .int .i64 h4.done, .int .i64 wx, .slice none 0 0, .slice AT data.length cT, .bool en] 34 (0, 0)) := blk_put (blk_put HT4.out 1 _ rfl) 2 _ rfl
      have hE5 : Else5 w base hb vD vM vD4 (.slice AM h4.more.length cM) (.slice AT data.length cT) h4 data (w.heap.size + 1 + 1) ((w4.setCell ⟨w.heap.size + 1 + 1, 1, none⟩ (.int .i64 h4.done)).setCell ⟨w.heap.size + 1 + 1, 2, none⟩ (.int .i64 wx)).drew :=
        ((Else5.set (Else5.set ⟨HS4.out, H4.out, HR4.out, HG4.out, by omega⟩ HT4.out 1 (.int .i64 h4.done)) (blk_put HT4.out 1 (.int .i64 h4.done) rfl) 2 (.int .i64 wx))).below (below_drew (Below.refl _ _))
      rw [← hcut.out] at hT5 hE5
      obtain ⟨w5, hw5⟩ : ∃ y : World, y = wc := ⟨_, rfl⟩
      subst hw5
      have HT5 := Aside0.mk hT5
      have HE5 := Aside0.mk hE5
      clear hcut hT5 hE5 hw1 hw2 f0 f2 f4 t0 t1 t2 t3 t4 t5 x0 x1 x2 x3 x4 x5 HT4 HS4 H4 HR4 HG4 hne
      have f2 : w5.cell? ⟨hb, 2, none⟩ = some (.int .i64 h4.done) := (blk_cell HE5.out.hr.blk 2).trans rfl
      have f5 : w5.cell? ⟨hb, 5, none⟩ = some (.int .i64 h4.en) := (blk_cell HE5.out.hr.blk 5).trans rfl
      obtain ⟨ac, hac⟩ : ∃ y, ackF h4 = y := ⟨_, rfl⟩
      have HAC := Aside0.mk hac
      clear hac
      go_upto_region 11 with (fail)
      go_quiet (fail)
      go_upto_if 52 with (fail)
      have hbn : Below w5.heap.size w5 (w5.drewN nq) := pw_below_drewN (Below.refl _ _) nq
      have HT6 := Aside0.mk (blk_below HT5.out hbn)
      have HE6 := Aside0.mk (HE5.out.below hbn)
      obtain ⟨W6, hW6⟩ : ∃ y, w5.drewN nq = y := ⟨_, rfl⟩
      rw [hW6] at HT6 HE6 ⊢
      clear hW6 hbn f2 f5 HT5 HE5
      go_cut [] (fun wc => Aside0 (wc.heap[w.heap.size + 1 + 1]? = some (.cells #[.int .i64 code, .int .i64 ac, .int .i64 wx, .slice none 0 0, .slice AT data.length cT, .bool en] 34 (0, 0)) ∧ Else5 w base hb vD vM vD4 (.slice AM h4.more.length cM) (.slice AT data.length cT) h4 data (w.heap.size + 1 + 1) wc))
      case first =>
        obtain ⟨t0, t1, t2, t3, t4, t5, x0, x1, x2, x3, x4, x5⟩ := six_cells HT6.out
        have hok := HOK2.out
        simp only [okH] at hok
        have hd : 0 ≤ h4.done ∧ h4.done ≤ 1048576 := hok.2.2.1
        clear hok
        by_cases c : h4.done = h4.en
        · have k : (h4.done == h4.en) = true := by simpa using c
          have ha : ac = h4.en + 1 := by rw [← HAC.out, ackF, if_pos c, c]
          have HA := Aside0.mk ha
          clear ha
          go_wp2
          go_meet
          case rel =>
            rw [HA.out]
            exact ⟨⟨blk_put HT6.out 1 _ rfl, HE6.out.set HT6.out 1 _⟩⟩
        · have k : (h4.done == h4.en) = false := by simpa using c
          have ha : ac = h4.done := by rw [← HAC.out, ackF, if_neg c]
          have HA := Aside0.mk ha
          clear ha
          go_wp2
          go_meet
          case rel =>
            rw [HA.out]
            exact ⟨⟨HT6.out, HE6.out⟩⟩
      case rest =>
        obtain ⟨hT7, hE7⟩ := hcut.out
        obtain ⟨w7, hw7⟩ : ∃ y : World, y = wc := ⟨_, rfl⟩
        subst hw7
        have HT7 := Aside0.mk hT7
        have HE7 := Aside0.mk hE7
        clear hcut hT7 hE7 HT6 HE6
        have f2 : w7.cell? ⟨hb, 2, none⟩ = some (.int .i64 h4.done) := (blk_cell HE7.out.hr.blk 2).trans rfl
        have f3 : w7.cell? ⟨hb, 3, none⟩ = some (.slice AM h4.more.length cM) := (blk_cell HE7.out.hr.blk 3).trans rfl
        have HSC := Aside0.mk (hole_Sacks.calls h4.done AM cM h4.more last 3 s.1 s.2 w7.drew (Kd.C_drew (Kd.R_reads' HE7.out.hr.rM).2.2) (Kd.R_reads' HE7.out.hr.rM).2.1 HSK.out)
        have hne : hb ≠ w.heap.size + 1 + 1 := blk_ne HE7.out.hr.blk HT7.out (by decide)
        go_upto_region 13 with (fail)
        go_region_held3 (fun w' => w'.cell? ⟨hb, 2, none⟩ = some (.int .i64 h4.done) ∧ w'.cell? ⟨hb, 3, none⟩ = some (.slice AM h4.more.length cM)) (first | (with_reducible exact ⟨f2, f3⟩) | (with_reducible exact ⟨r2, r3⟩) | (with_reducible exact ⟨cellfar_ r2 hne, cellfar_ r3 hne⟩) | go_keep)
          (first | (go_at_call 40; refine HSC.out.mono ?_; rintro e w8 ⟨v8, rfl, ho8, hb0⟩; obtain ⟨A8, c8, e8⟩ := Kd.R_slice ho8; subst e8; have hb8 : Below w7.heap.size w7 w8 := (Below.refl _ w7).drew.trans hb0; have HO8 := Aside0.mk (show k56.R 56 w8 w7.heap.size (fun _ => True) (.slice A8 s.1.length c8) s.1 from ho8); have HB8 := Aside0.mk hb8; have hT8 := blk_below HT7.out hb8; have HT8 := Aside0.mk hT8; have HE8 := Aside0.mk (HE7.out.below hb8); have r2 := pw_cell_below hb8 f2; have r3 := pw_cell_below hb8 f3; have t3 : w8.cell? ⟨w.heap.size + 1 + 1, 3, none⟩ = some (.slice none 0 0) := (blk_cell hT8 3).trans rfl; have y3 := blk_frozen hT8 3; clear ho8 hb0 hb8 hT8))
        have hT9 : (w8.setCell ⟨w.heap.size + 1 + 1, 3, none⟩ (.slice A8 s.1.length c8)).heap[w.heap.size + 1 + 1]? = some (.cells #[.int .i64 code, .int .i64 ac, .int .i64 wx, .slice A8 s.1.length c8, .slice AT data.length cT, .bool en] 34 (0, 0)) := blk_put HT8.out 3 _ rfl
        have hE9 := HE8.out.set HT8.out 3 (.slice A8 s.1.length c8)
        have hS9 := Kd.R_set HO8.out HT8.out (by decide) 3 (.slice A8 s.1.length c8)
        have HDM : Aside0 (∀ k, (Value.slice A8 s.1.length c8).ownBlock = some k → (Value.slice AM h4.more.length cM).ownBlock = some k → False) := ⟨fun k e9 e8 => by have := Kd.R_base HO8.out k e9; have := (HE7.out.hr.lt k (.inr (.inr e8))).2; omega⟩
        have HSZ := Aside0.mk (show w.heap.size + 1 + 1 < w7.heap.size from blk_lt HT7.out)
        obtain ⟨W9, hW9⟩ : ∃ y, w8.setCell ⟨w.heap.size + 1 + 1, 3, none⟩ (.slice A8 s.1.length c8) = y := ⟨_, rfl⟩
        rw [hW9] at hT9 hE9 hS9 ⊢
        have HT9 := Aside0.mk hT9
        have HE9 := Aside0.mk hE9
        have HS9 := Aside0.mk hS9
        obtain ⟨z0, z1, z2, z3, z4, z5, _, _, _, _, _, _⟩ := six_cells hT9
        obtain ⟨p0, p1, p2, p3, p4, p5, g0, g1, g2, g3, g4, g5⟩ := six_cells hE9.res
        clear hW9 hT9 hE9 hS9 f2 f3 r2 r3 t3 y3 HT7 HE7 HT8 HE8 HO8 HB8 HSC hne
        go_wp2
        rw [put6_eq]
        have hg := gs_setCells_ (w.heap.size + 1) [.int .i64 code, .int .i64 ac, .int .i64 wx, .slice A8 s.1.length c8, .slice AT data.length cT, .bool en] 0 W9 W9 (Gs.refl _ _)
        have hb' := set_all_ HE9.out.res [.int .i64 code, .int .i64 ac, .int .i64 wx, .slice A8 s.1.length c8, .slice AT data.length cT, .bool en] rfl
        have hrS : k56.R 56 (W9.setCells (w.heap.size + 1) 0 [.int .i64 code, .int .i64 ac, .int .i64 wx, .slice A8 s.1.length c8, .slice AT data.length cT, .bool en]) w.heap.size (fun _ => True) (.slice A8 s.1.length c8) s.1 :=
          RR_keep (Kd.R_lower HS9.out (by have := HSZ.out; omega)) (fun k hk => hg.block k (Kd.R_lt HS9.out k hk) (by have h9 := Kd.R_base HS9.out k hk; have := HSZ.out; omega))
        have hrT : (Kd.int .u8).R 5 (W9.setCells (w.heap.size + 1) 0 [.int .i64 code, .int .i64 ac, .int .i64 wx, .slice A8 s.1.length c8, .slice AT data.length cT, .bool en]) w.heap.size (fun _ => True) (.slice AT data.length cT) data :=
          R5_keep HE9.out.row (fun k hk => hg.block k (Kd.R_lt HE9.out.row k hk) (fun e9 => by subst e9; exact ne_typed_ (Kd.R_typed HE9.out.row _ hk) ⟨_, HE9.out.res⟩ (by decide) rfl))
        have hrr := HRR.out
        rw [HWX.out, HAC.out] at hrr
        rw [← hrr]
        refine bodyPost_ret (results_cell_row rfl _ _ (w.heap.size + 1) 34 _ (0, 0) _ rfl hb' Try.underlying34 rfl (by kernel_rfl)) rfl ⟨vD4, _, _, _, rfl, HE9.out.hr.far HE9.out.res (by decide) (by decide) (by decide) hg, HN4.out.1, HN4.out.2, hrS, hrT, HDM.out, HDJ.out, ?_⟩
        exact ⟨hg.os.trans HE9.out.gs.os, hg.tape.trans HE9.out.gs.tape, hg.output.trans HE9.out.gs.output, Nat.le_trans HE9.out.gs.size hg.size, fun k hk hm => (hg.block k (Nat.lt_of_lt_of_le hk HE9.out.gs.size) (by omega)).trans (HE9.out.gs.block k hk hm)⟩
/-! ### the play: a row of answers -/
set_option maxHeartbeats 4000000 in
theorem hnew_calls (room : Int) (w : World) : Calls Try.prog 32 #[.int .i64 room] w fun e w' => e = .returned (.pointer (some ⟨w.heap.size, 0, none⟩)) ∧ w' = w.alloc (Obj.cells #[.int .i64 room, .slice none 0 0, .int .i64 0, .slice none 0 0, .int .i64 0, .int .i64 (-1)] 99) := by
  have hu2 := Try.underlying99
  go_enter Try.func32, Try.ntmps32
  go_wp2
  go_ret
  exact ⟨rfl, rfl⟩
def h0F (room : Int) : Hr := ⟨room, [], 0, [], 0, -1⟩
theorem HR.new (w : World) (room : Int) : HR (w.alloc (Obj.cells #[.int .i64 room, .slice none 0 0, .int .i64 0, .slice none 0 0, .int .i64 0, .int .i64 (-1)] 99)) w.heap.size w.heap.size (.slice none 0 0) (.slice none 0 0) (h0F room) :=
  ⟨blk_new _ _, Kd.R_nil _ _ _ _ _, Kd.R_nil _ _ _ _ _, Nat.le_refl _⟩
def okM (hb : Nat) (vD vM : Value) (k : Nat) : Prop := ¬ MH hb vD vM k
def okS (vS vT : Value) (k : Nat) : Prop := vS.ownBlock = some k ∨ vT.ownBlock = some k
theorem hp_do {wa w5 : World} {base hb : Nat} {vD vM v6 : Value} {h : Hr} {acc : List S34} {r : S34 × Hr} {e : Ending} (hF : HR wa base hb vD vM h) (hS : Kd.S k34 34 wa base (okM hb vD vM) v6 acc) (hP : DoPost wa base hb vD vM r e w5) :
    ∃ vD' vM' vS vT, e = .returned (.agg #[.int .i64 r.1.f0, .int .i64 r.1.f1, .int .i64 r.1.f2, vS, vT, .bool r.1.f5]) ∧ HR w5 base hb vD' vM' r.2 ∧ k56.R 56 w5 base (okS vS vT) vS r.1.f3 ∧ (Kd.int .u8).R 5 w5 base (okS vS vT) vT r.1.f4 ∧ (∀ k, okS vS vT k → okM hb vD' vM' k ∧ some k ≠ v6.ownBlock) ∧ Kd.S k34 34 w5 base (fun k => okM hb vD' vM' k ∧ ¬ okS vS vT k) v6 acc ∧ Gs (MH hb vD vM) wa w5 := by
  obtain ⟨vD', vM', vS, vT, he, hH, nD, nM, hRS, hRT, dS, dT, hG⟩ := hP
  have hfb := blk_lt hF.blk
  have hbase : base ≤ wa.heap.size := Nat.le_trans hF.bf (Nat.le_of_lt hfb)
  have h6 := Kd.S_lt hS
  refine ⟨vD', vM', vS, vT, he, hH, RR_re (Kd.R_lower hRS hbase) (fun k hk => .inl hk), R5_re (Kd.R_lower hRT hbase) (fun k hk => .inr hk), fun k hk => ?_, ?_, hG⟩
  · have hk9 : wa.heap.size ≤ k := hk.elim (fun hk => Kd.R_base hRS k hk) (fun hk => Kd.R_base hRT k hk)
    refine ⟨?_, fun e => by have := h6 k e.symm; omega⟩
    rcases hk with hk | hk
    · rintro (e9 | e9 | e9)
      · omega
      · exact ne_typed_ (Kd.R_typed hRS k hk) (Kd.R_typed hH.rD k e9) (by decide) rfl
      · exact dS k hk e9
    · rintro (e9 | e9 | e9)
      · omega
      · exact dT k hk e9
      · exact ne_typed_ (Kd.R_typed hRT k hk) (Kd.R_typed hH.rM k e9) (by decide) rfl
  · refine Kd.S_mono (Kd.S_step (Kd.S_bound hS) (fun k hk hlt => hG.block k hlt hk.1)) (fun k hk => ⟨?_, fun h => ?_⟩)
    · rintro (e9 | e9 | e9)
      · exact hk.1 (.inl e9)
      · exact nD.far k hk.2.2.1 (fun e8 => hk.1 (.inr (.inl e8.symm))) e9.symm
      · exact nM.far k hk.2.2.1 (fun e8 => hk.1 (.inr (.inr e8.symm))) e9.symm
    · have := hk.2.2.1
      rcases h with h | h
      · have := Kd.R_base hRS k h; omega
      · have := Kd.R_base hRT k h; omega
theorem hp_app {w5 w6 : World} {base hb : Nat} {vD vM v6 : Value} {h : Hr} {acc : List S34} {okp : Nat → Prop} (hF : HR w5 base hb vD vM h) (hS : Kd.S k34 34 w5 base (fun k => okM hb vD vM k ∧ ¬ okp k) v6 acc) (hg : w5.grownBy w6 v6.ownBlock) : HR w6 base hb vD vM h :=
  hF.move fun k hk => hg.block k (hF.lt k hk).2 (fun e => ((Kd.S_R hS).1 k e.symm).1 hk)
def playH : Hr → List S38 → List S34 → Option (List S34)
  | _, [], acc => some acc
  | h, a :: l, acc => (doF h a).bind fun r => playH r.2 l (acc ++ [r.1])
def recv_Play.f (room : Int) (l : List S38) : Option (List S34 × Int) :=
  if room < 1 ∨ 4096 < room then some ([], 2)
  else if 300 < l.length then some ([], 1)
  else (playH (h0F room) l []).map fun r => (r, 0)
set_option maxHeartbeats 8000000 in
set_option maxRecDepth 100000 in
theorem hplay_calls (room : Int) (A0 : Option Addr) (c0 : Nat) (l : List S38) (res : List S34) (w : World) (hC0 : Kd.C k38 w A0 l.length l) (hr1 : 1 ≤ room) (hr2 : room ≤ 4096) (h300 : l.length ≤ 300) (h : playH (h0F room) l [] = some res) :
    Calls Try.prog 28 #[.int .i64 room, .slice A0 l.length c0] w fun e w' => ∃ v0_, e = .returned (.tuple #[v0_, .int .i64 0]) ∧ Kd.S k34 34 w' w.heap.size (fun _ => True) v0_ res ∧ Below w.heap.size w w' := by
  have hu65 := Try.underlying38
  have hu71 := Try.underlying34
  have hu66 := Try.underlying28
  have k1 : decide (room < 1) = false := decide_eq_false (by omega)
  have k2 : decide (4096 < room) = false := decide_eq_false (by omega)
  have k5 : decide (300 < (l.length : Int)) = false := decide_eq_false (by omega)
  have k6 : decide (300 < l.length) = false := decide_eq_false (by omega)
  obtain ⟨W2, hw2⟩ : ∃ y, w.alloc (Obj.cells #[.int .i64 room, .slice none 0 0, .int .i64 0, .slice none 0 0, .int .i64 0, .int .i64 (-1)] 99) = y := ⟨_, rfl⟩
  have hB2 : Below w.heap.size w W2 := by rw [← hw2]; exact below_alloc (Below.refl _ _) _
  have hF2 : HR W2 w.heap.size w.heap.size (.slice none 0 0) (.slice none 0 0) (h0F room) := by rw [← hw2]; exact HR.new w room
  have HC0 := Aside0.mk hC0
  have H300 := Aside0.mk h300
  have H := Aside0.mk h
  have HB2 := Aside0.mk hB2
  have HF2 := Aside0.mk hF2
  have HW2 := Aside0.mk hw2
  clear hC0 h300 h hB2 hF2 hw2 hr1 hr2
  go_enter Try.func28, Try.ntmps28
  go_upto_region 7 with (first
    | ((with_reducible refine gate_callee (f := 32) rfl ?_); refine goesL_ _ rfl rfl Try.func32 (by kernel_rfl) rfl #[.int .i64 room] rfl (by (try simp only [List.map_toArray, List.map_cons, List.map_nil]); first | done | rfl) ?_; refine (hnew_calls room w).mono ?_; rintro e w5 ⟨rfl, rfl⟩; refine ⟨_, rfl, ?_⟩))
  rw [HW2.out]
  clear HW2 k1 k2 k5 k6
  go_wp2
  go_loopw [7, 23] (fun v7 v23 wr => ∃ (j : Nat) (st : Hr) (acc : List S34) (vD vM : Value), j ≤ l.length ∧ v23 = .int .i64 (j : Int) ∧ Aside0 (playH st (l.drop j) acc = some res) ∧ Aside0 (acc.length = j) ∧ Aside0 (HR wr w.heap.size w.heap.size vD vM st) ∧ Aside0 (Kd.S k34 34 wr w.heap.size (okM w.heap.size vD vM) v7 acc) ∧ Aside0 (Below w.heap.size w wr)) (fun _ v23 _ => l.length - (intOf v23).toNat)
  case atStart => exact ⟨0, _, [], _, _, Nat.zero_le _, rfl, ⟨by rw [List.drop_zero]; exact H.out⟩, ⟨rfl⟩, HF2, ⟨Kd.S_nil _ _ _ _ _⟩, HB2⟩
  case round =>
    clear HF2 HB2 H
    have h300 := H300.out
    obtain ⟨j, st, acc, vD, vM, hj, rfl, H, HL, HF, HS, HB⟩ := hrel
    obtain ⟨wo, hwo⟩ : ∃ wo : World, wo = wr := ⟨_, rfl⟩
    subst hwo
    by_cases k0 : j < l.length
    · have k0b : decide (j < l.length) = true := decide_eq_true k0
      have k0i : decide ((j : Int) < (l.length : Int)) = true := decide_eq_true (by omega)
      obtain ⟨ad, AG, cG, rfl, hx0, hx1, hx2, hx3, hx4, hcG, hCG⟩ := at_T38 HC0.out (j : Int) (by omega) (by omega)
      replace hx0 := pw_cell_below HB.out hx0
      replace hx1 := pw_cell_below HB.out hx1
      replace hx2 := pw_cell_below HB.out hx2
      replace hx3 := pw_cell_below HB.out hx3
      replace hx4 := pw_cell_below HB.out hx4
      rw [Int.toNat_natCast] at hx0 hx1 hx2 hx3 hx4
      obtain ⟨a, hz⟩ : ∃ z, rd_T38 l (j : Int) = z := ⟨_, rfl⟩
      rw [hz] at hx0 hx1 hx2 hx3 hx4 hcG hCG
      have hdrop : l.drop j = a :: l.drop (j + 1) := by
        rw [List.drop_eq_getElem_cons k0]
        congr 1
        rw [← hz, rd_T38, Int.toNat_natCast, List.getD_eq_getElem?_getD, List.getElem?_eq_getElem k0]
        rfl
      have h := H.out
      rw [hdrop, playH] at h
      rcases hd : doF st a with _ | r
      · rw [hd] at h; cases h
      rw [hd, Option.bind_some] at h
      obtain ⟨wa, hwa⟩ : ∃ y, wo.alloc (Obj.cells #[.int .i64 a.f0, .int .i64 a.f1, .slice AG a.f2.length cG, .bool a.f3, .int .i64 a.f4] 38) = y := ⟨_, rfl⟩
      have hBa : Below wo.heap.size wo wa := by rw [← hwa]; exact below_alloc (Below.refl _ _) _
      have HFA := Aside0.mk (HF.out.below hBa)
      have HSA := Aside0.mk (Kd.S_below HS.out hBa)
      have HBA := Aside0.mk (below_step HB.out hBa)
      have HGC := Aside0.mk (hdo_calls HFA.out a AG cG hcG (fun w' hg => Kd.C_below hCG (HBA.out.trans (hg.below HBA.out.size (fun k hk => (HFA.out.lt k hk).1)))) r hd)
      have HWA := Aside0.mk hwa
      have H1 := Aside0.mk h
      have HLL := Aside0.mk (show (acc.length + 1) * 80 ≤ 140737488355328 by have := HL.out; omega)
      obtain ⟨A6, c6, hv6⟩ := Kd.S_slice HS.out
      subst hv6
      clear hz hdrop h H hd hwa hBa hcG hCG
      go_wp2_with (first
        | ((with_reducible refine gate_callee (f := 33) rfl ?_); refine goesL_ _ rfl rfl Try.func33 (by kernel_rfl) rfl #[.pointer (some ⟨w.heap.size, 0, none⟩), .agg #[.int .i64 a.f0, .int .i64 a.f1, .slice AG a.f2.length cG, .bool a.f3, .int .i64 a.f4]] rfl (by (try simp only [List.map_toArray, List.map_cons, List.map_nil]); first | done | rfl) ?_; (rw [HWA.out]); refine HGC.out.mono ?_; intro e w5 hP; obtain ⟨vD', vM', vS, vT, he, hF5, hRS5, hRT5, hokp, hS5, hG5⟩ := hp_do HFA.out HSA.out hP; subst he; refine ⟨_, rfl, ?_⟩; obtain ⟨AW, cW, hvW⟩ := Kd.R_slice hRS5; obtain ⟨AN, cN, hvN⟩ := Kd.R_slice hRT5; subst hvW hvN; have HF5 := Aside0.mk hF5; have HW5 := Aside0.mk hRS5; have HN5 := Aside0.mk hRT5; have HOKP := Aside0.mk hokp; have HS5 := Aside0.mk hS5; have HG5 := Aside0.mk hG5; clear hF5 hRS5 hRT5 hokp hS5 hG5 hP)
        | ((with_reducible refine gate_builtin (b := .append) (xs := #[.tmp 27, .tmp 31]) rfl ?_); at_builtin; refine Kd.S_append k34 (w0 := w5) (W := w5) w.heap.size rfl (.tmp 27) (.tmp 31) 28 34 (.agg #[.int .i64 0, .int .i64 0, .int .i64 0, .slice none 0 0, .slice none 0 0, .bool false]) 80 rfl Try.underlying28 info34 rfl (by decide) (by decide) (.slice A6 acc.length c6) acc r.1 [.int .i64 r.1.f0, .int .i64 r.1.f1, .int .i64 r.1.f2, .slice AW r.1.f3.length cW, .slice AN r.1.f4.length cN, .bool r.1.f5] (okM w.heap.size vD' vM') (okS (.slice AW r.1.f3.length cW) (.slice AN r.1.f4.length cN)) rfl rfl (k34_mkM _ _ _ r.1 HW5.out HN5.out) HOKP.out (fun k hk hm => by have := (HF5.out.lt k hm).2; omega) HS5.out (Below.refl _ _) ?aS HLL.out ?_; (case aS => have := HF5.out.bf; have := blk_lt HF5.out.blk; omega); intro v1 w6 ho hb6 hg6 hat6; have HO6 := Aside0.mk ho; have HB6 := Aside0.mk hb6; have HF6 := Aside0.mk (hp_app HF5.out HS5.out hg6); clear ho hb6 hg6 hat6))
      have hgb : Below w.heap.size wa w5 := HG5.out.below HBA.out.size (fun k hk => (HFA.out.lt k hk).1)
      exact ⟨⟨j + 1, r.2, acc ++ [r.1], vD', vM', by omega, by go_num, H1, ⟨by rw [List.length_append]; have := HL.out; simp; omega⟩, HF6, HO6, ⟨(HBA.out.trans hgb).trans HB6.out⟩⟩, by simp [intOf]; omega⟩
    · have k0b : decide (j < l.length) = false := decide_eq_false k0
      have k0i : decide ((j : Int) < (l.length : Int)) = false := decide_eq_false (by omega)
      have h := H.out
      rw [List.drop_eq_nil_of_le (by omega), playH] at h
      injection h with h
      subst h
      clear H
      obtain ⟨A9, c9, hv9⟩ := Kd.S_slice HS.out
      subst hv9
      go_wp2
      go_ret2
      exact ⟨_, rfl, Kd.S_mono HS.out (fun _ _ => trivial), HB.out⟩
set_option maxHeartbeats 8000000 in
set_option maxRecDepth 100000 in
theorem recv_Play.calls (a0 : Int) (A1 : Option Addr) (c1 : Nat) (l1 : List S38) (r1 : List S34) (r2 : Int) (w : World) (hr1 : Kd.C k38 w A1 l1.length l1) (hc1 : l1.length ≤ c1) (h : recv_Play.f a0 l1 = some (r1, r2)) :
    Calls Try.prog 28 #[.int .i64 a0, .slice A1 l1.length c1] w fun e w' => ∃ v0_ : Value, e = .returned (.tuple #[v0_, .int .i64 r2]) ∧ Kd.S k34 34 w' w.heap.size (fun _ => True) v0_ r1 ∧ Below w.heap.size w w' := by
  unfold recv_Play.f at h
  by_cases c : a0 < 1 ∨ 4096 < a0
  · rw [if_pos c] at h
    simp only [Option.some.injEq, Prod.mk.injEq] at h
    obtain ⟨rfl, rfl⟩ := h
    by_cases c2 : a0 < 1
    · have k1 : decide (a0 < 1) = true := decide_eq_true c2
      clear c
      go_enter Try.func28, Try.ntmps28
      go_wp2
      go_ret2
      exact ⟨_, rfl, Kd.S_nil _ _ _ _ _, Below.refl _ _⟩
    · have k1 : decide (a0 < 1) = false := decide_eq_false c2
      have k2 : decide (4096 < a0) = true := decide_eq_true (by omega)
      clear c
      go_enter Try.func28, Try.ntmps28
      go_wp2
      go_ret2
      exact ⟨_, rfl, Kd.S_nil _ _ _ _ _, Below.refl _ _⟩
  · rw [if_neg c] at h
    have k1 : decide (a0 < 1) = false := decide_eq_false (by omega)
    have k2 : decide (4096 < a0) = false := decide_eq_false (by omega)
    by_cases c3 : 300 < l1.length
    · rw [if_pos c3] at h
      simp only [Option.some.injEq, Prod.mk.injEq] at h
      obtain ⟨rfl, rfl⟩ := h
      have k5 : decide (300 < (l1.length : Int)) = true := decide_eq_true (by omega)
      have k6 : decide (300 < l1.length) = true := decide_eq_true c3
      clear c
      go_enter Try.func28, Try.ntmps28
      go_wp2
      go_ret2
      exact ⟨_, rfl, Kd.S_nil _ _ _ _ _, Below.refl _ _⟩
    · rw [if_neg c3] at h
      rcases hp : playH (h0F a0) l1 [] with _ | r
      · rw [hp] at h
        exact absurd h (by simp)
      · rw [hp] at h
        simp only [Option.map_some, Option.some.injEq, Prod.mk.injEq] at h
        obtain ⟨rfl, rfl⟩ := h
        exact hplay_calls a0 A1 c1 l1 r w hr1 (by omega) (by omega) (by omega) hp

end Go.Proofs.Ytjbilachfipicaa.PRecvTwice
