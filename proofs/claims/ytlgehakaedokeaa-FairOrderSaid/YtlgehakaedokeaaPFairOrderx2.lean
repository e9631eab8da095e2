/- Printed by a program of this session (wip/myprint.py): Go functions of the law as Lean functions, and the proof that the code comes to these answers. -/
import Derived.Test.YtlgehakaedokeaaPFairOrderx0
import Derived.Test.YtlgehakaedokeaaPFairOrderx1
namespace Go.Proofs.Ytlgehakaedokeaa.PFairOrder
open Go.RowKit Go.Proofs.YtlgehakaedokeaaW.PrintWords Go.Proofs.YtlgehakaedokeaaW.PrintLast Go.Proofs.YtlgehakaedokeaaW.PrintMore
attribute [local go_sem] max2_int min2_int max_two min_two max_three min_three max_four min_four   -- for this text's walks alone
attribute [local go_sem] pn_setCell_drewN
set_option linter.unusedVariables false
set_option linter.unusedSimpArgs false

/-! ### fair_Play: function 33, by hand -/
/-- a row of a call's own that is cut from in front, as a cell -/
def queue {α : Type} (e : Nat) (d : Kd α) : Kd (List α) where
  sz := 1
  E := e :: d.E
  K := fun w xs cs => ∃ A c, cs = [.slice A xs.length c] ∧ xs.length ≤ c ∧ d.C w A xs.length xs
  M := fun w base ok xs cs => ∃ v, cs = [v] ∧ d.Q e w base ok v xs
  K_len := by
    rintro w x cs ⟨A, c, rfl, _⟩
    rfl
  K_one := by
    rintro w x cs ⟨A, c, rfl, _⟩ u hu
    rw [List.mem_singleton.1 hu]
    rfl
  K_below := by
    rintro w w1 x cs hb ⟨A, c, rfl, hl, hr⟩
    exact ⟨A, c, rfl, hl, Kd.C_below hr hb⟩
  K_of_M := by
    rintro w base ok x cs ⟨v, rfl, h⟩
    obtain ⟨A, c, rfl, hl, hr⟩ := Kd.Q_reads h
    exact ⟨A, c, rfl, hl, hr⟩
  M_mono := by
    rintro w base ok ok' x cs hok ⟨v, rfl, h⟩
    exact ⟨v, rfl, Kd.Q_mono h hok⟩
  M_bound := by
    rintro w base ok x cs ⟨v, rfl, h⟩
    exact ⟨v, rfl, Kd.Q_bound h⟩
  M_move := by
    rintro w w1 base ok x cs hm ⟨v, rfl, h⟩
    exact ⟨v, rfl, Kd.Q_move h hm⟩
  M_lower := by
    rintro w base base' ok x cs hb ⟨v, rfl, h⟩
    exact ⟨v, rfl, Kd.Q_lower h hb⟩
/-- a flow -/
structure Fl where
  qu : Int
  ws : List Int
  de : Int
  fd : Bool
def zFl : Fl := ⟨0, [], 0, false⟩
def kFl : Kd Fl := Kd.iso (Kd.pair (Kd.int .i64) (Kd.pair (queue 3 (Kd.int .i64)) (Kd.pair (Kd.int .i64) Kd.bool))) (fun x : Fl => (x.qu, x.ws, x.de, x.fd))
theorem kFl_openM {w : World} {base : Nat} {ok : Nat → Prop} {x : Fl} {cs : List Value} (h : kFl.M w base ok x cs) : ∃ v, cs = [.int .i64 x.qu, v, .int .i64 x.de, .bool x.fd] ∧ (Kd.int .i64).Q 3 w base ok v x.ws := by
  obtain ⟨_, _, rfl, rfl, ⟨_, _, rfl, ⟨v, rfl, g⟩, ⟨_, _, rfl, rfl, rfl⟩⟩⟩ := h
  exact ⟨v, rfl, g⟩
theorem kFl_mkM (w : World) (base : Nat) (ok : Nat → Prop) (x : Fl) {v : Value} (g : (Kd.int .i64).Q 3 w base ok v x.ws) : kFl.M w base ok x [.int .i64 x.qu, v, .int .i64 x.de, .bool x.fd] := ⟨[.int .i64 x.qu], [v, .int .i64 x.de, .bool x.fd], rfl, rfl, ⟨[v], [.int .i64 x.de, .bool x.fd], rfl, ⟨v, rfl, g⟩, ⟨[.int .i64 x.de], [.bool x.fd], rfl, rfl, rfl⟩⟩⟩
theorem info98 : (Try.prog.info? 98).map (fun i => (i.zero, i.size, i.bytes)) = some (some (.agg #[(.int .i64 0), (.slice none 0 0), (.int .i64 0), (.bool false)]), 4, 48) := by kernel_rfl
/-- what was served stays as it is -/
def Only (w w' : World) : Prop := ∀ (k : Nat) (cs : Array Value), w.heap[k]? = some (Obj.cells cs 52 (0, 0)) → w'.heap[k]? = w.heap[k]?
theorem Only.refl (w : World) : Only w w := fun _ _ _ => rfl
theorem Only.trans {a b c : World} (h : Only a b) (g : Only b c) : Only a c := fun k cs hk => (g k cs ((h k cs hk).trans hk)).trans (h k cs hk)
theorem Only.below {w w1 : World} (h : Below w.heap.size w w1) : Only w w1 := fun k _ hk => h.block k (blk_lt hk)
theorem Only.set {w : World} {g t : Nat} {cs : Array Value} (hb : w.heap[g]? = some (.cells cs t (0, 0))) (ht : t ≠ 52) (j : Nat) (u : Value) : Only w (w.setCell ⟨g, j, none⟩ u) := fun k ds hk => by
  have : k ≠ g := fun e => by
    subst e
    rw [hb] at hk
    injection hk with hk
    injection hk with _ hk
    exact ht hk
  exact Below.heap_setCell w ⟨g, j, none⟩ u k this
theorem Only.grown {w w1 : World} {row : Option Nat} {t : Nat} (hg : w.grownBy w1 row) (hr : ∀ k, row = some k → ∃ cs, w.heap[k]? = some (.cells cs t (0, 0))) (ht : t ≠ 52) : Only w w1 := fun k ds hk => hg.block k (blk_lt hk) (fun e => by
  obtain ⟨cs, hcs⟩ := hr k e.symm
  rw [hcs] at hk
  injection hk with hk
  injection hk with _ hk
  exact ht hk)
theorem Only.R {w w1 : World} (h : Only w w1) {base : Nat} {ok : Nat → Prop} {v : Value} {xs : List S52} (hR : Kd.R k52 52 w base ok v xs) : Kd.R k52 52 w1 base ok v xs := Kd.R_mono (Kd.R_move (Kd.R_bound hR) (fun k hk => by
  obtain ⟨_, _, _, q, hq, cs, hcs⟩ := hk
  have : q = 52 := by
    rcases List.mem_cons.1 hq with e | e
    · exact e
    · exact absurd e (by show ¬ q ∈ k52.E; rw [show k52.E = [] from rfl]; exact List.not_mem_nil)
  subst this
  exact h k cs hcs)) (fun _ hk => by first | exact hk.1 | (and_intros <;> first | exact hk | exact hk.1 | exact hk.2 | exact hk.1.1 | exact hk.1.2 | exact hk.2.1 | exact hk.2.2 | exact hk.1.1.1 | exact hk.1.1.2 | exact hk.2.2.1 | exact hk.2.2.2))
/-- the ring in memory -/
structure Ring (w : World) (rb base : Nat) (S T : Nat → Prop) (fv tv : Value) (fl : List Fl) (tn : List Int) : Prop where
  blk : w.heap[rb]? = some (.cells #[fv, tv] 96 (0, 0))
  fls : Kd.S kFl 98 w base S fv fl
  trn : (Kd.int .i64).Q 3 w base T tv tn
  dis : ∀ k, S k → ¬ T k
  low : base ≤ rb
def FR (w : World) (rb base : Nat) (fl : List Fl) (tn : List Int) : Prop := ∃ S T fv tv, Ring w rb base S T fv tv fl tn
/-- the world goes on, and what was served stays -/
structure Goes (base : Nat) (w w' : World) : Prop where
  bel : Below base w w'
  onl : Only w w'
theorem Goes.refl (base : Nat) (w : World) : Goes base w w := ⟨Below.refl _ _, Only.refl _⟩
theorem Goes.trans {base : Nat} {a b c : World} (h : Goes base a b) (g : Goes base b c) : Goes base a c := ⟨h.bel.trans g.bel, h.onl.trans g.onl⟩
theorem Goes.below {base : Nat} {w w1 : World} (h : Below w.heap.size w w1) (hb : base ≤ w.heap.size) : Goes base w w1 := ⟨⟨h.os, h.tape, h.output, h.size, fun k hk => h.block k (by omega)⟩, Only.below h⟩
theorem Ring.mono {w : World} {rb base : Nat} {S T : Nat → Prop} {fv tv : Value} {fl : List Fl} {tn : List Int} (h : Ring w rb base S T fv tv fl tn) : Ring w rb base (fun k => S k ∧ k < w.heap.size) (fun k => T k ∧ k < w.heap.size) fv tv fl tn :=
  ⟨h.blk, Kd.S_mono (Kd.S_bound h.fls) (fun _ hk => by first | exact ⟨hk.1, hk.2.2.1⟩ | (and_intros <;> first | exact hk | exact hk.1 | exact hk.2 | exact hk.1.1 | exact hk.1.2 | exact hk.2.1 | exact hk.2.2 | exact hk.1.1.1 | exact hk.1.1.2 | exact hk.2.2.1 | exact hk.2.2.2)), Kd.Q_mono (Kd.Q_bound h.trn) (fun _ hk => by first | exact ⟨hk.1, hk.2.2.1⟩ | (and_intros <;> first | exact hk | exact hk.1 | exact hk.2 | exact hk.1.1 | exact hk.1.2 | exact hk.2.1 | exact hk.2.2 | exact hk.1.1.1 | exact hk.1.1.2 | exact hk.2.2.1 | exact hk.2.2.2)), fun k h1 h2 => h.dis k h1.1 h2.1, h.low⟩
theorem Ring.of_below {w w1 : World} {rb base : Nat} {S T : Nat → Prop} {fv tv : Value} {fl : List Fl} {tn : List Int} (h : Ring w rb base S T fv tv fl tn) (hb : Below w.heap.size w w1) : Ring w1 rb base S T fv tv fl tn :=
  ⟨(hb.block rb (blk_lt h.blk)).trans h.blk, Kd.S_below h.fls hb, Kd.Q_below h.trn hb, h.dis, h.low⟩
theorem FR.of_below {w w1 : World} {rb base : Nat} {fl : List Fl} {tn : List Int} (h : FR w rb base fl tn) (hb : Below w.heap.size w w1) : FR w1 rb base fl tn := by
  obtain ⟨S, T, fv, tv, h⟩ := h
  exact ⟨S, T, fv, tv, h.of_below hb⟩
theorem typed_ne {w : World} {g k t t' : Nat} {cs ds : Array Value} (hg : w.heap[g]? = some (.cells cs t (0, 0))) (hk : w.heap[k]? = some (.cells ds t' (0, 0))) (ht : t ≠ t') : k ≠ g := fun e => by
  subst e
  rw [hg] at hk
  injection hk with hk
  injection hk with _ hk
  exact ht hk
/-- one flow, as its cells -/
theorem Ring.elem {w : World} {rb base : Nat} {S T : Nat → Prop} {fv tv : Value} {fl : List Fl} {tn : List Int} (h : Ring w rb base S T fv tv fl tn) (i : Nat) (hi : i < fl.length) (x : Fl) (hx : fl.getD i zFl = x) :
    ∃ gb cap ov oki, fv = .slice (some ⟨gb, 0, none⟩) fl.length cap ∧ base ≤ gb ∧ gb ≠ rb ∧ (∃ cs, w.heap[gb]? = some (.cells cs 98 (0, 0))) ∧ w.cell? ⟨gb, i * 4, none⟩ = some (.int .i64 x.qu) ∧ w.cell? ⟨gb, i * 4 + 1, none⟩ = some ov ∧ w.cell? ⟨gb, i * 4 + 2, none⟩ = some (.int .i64 x.de) ∧ w.cell? ⟨gb, i * 4 + 3, none⟩ = some (.bool x.fd) ∧ (∀ j, w.frozen? ⟨gb, i * 4 + j, none⟩ = false) ∧ (Kd.int .i64).Q 3 w base oki ov x.ws ∧ (∀ k, oki k → S k ∧ k ≠ gb) ∧ Kd.H kFl 98 w base (fun k => S k ∧ ¬ w.heap.size ≤ k) fv fl (i : Int) oki [.int .i64 x.qu, ov, .int .i64 x.de, .bool x.fd] := by
  obtain ⟨gb, cap, rfl, h1, h2, cs, h3⟩ := Kd.S_form h.fls (by omega)
  obtain ⟨oki, c, hcl, hM, hcc, hfr, hok, hH⟩ := Kd.S_elem (Kd.S_mono (ok' := fun k => S k ∧ ¬ w.heap.size ≤ k) (Kd.S_bound h.fls) (fun k hk => ⟨hk.1, by have := hk.2.2.1; omega⟩)) zFl (i : Int) (by omega) (by omega)
  rw [Int.toNat_natCast] at hM hcc hfr
  rw [hx] at hM
  obtain ⟨ov, rfl, hq⟩ := kFl_openM hM
  exact ⟨gb, cap, ov, oki, rfl, h1, typed_ne h.blk h3 (by decide), ⟨cs, h3⟩, hcc 0 _ rfl, hcc 1 _ rfl, hcc 2 _ rfl, hcc 3 _ rfl, hfr, hq, fun k hk => ⟨(hok k hk).1.1, (hok k hk).2⟩, hH⟩
/-- a cell of a flow that is written -/
theorem Ring.put {w : World} {n rb base gb cap : Nat} {S T : Nat → Prop} {tv : Value} {fl : List Fl} {tn : List Int} {oki okp : Nat → Prop} {c : List Value} (h : Ring w rb base S T (.slice (some ⟨gb, 0, none⟩) n cap) tv fl tn) (hn : fl.length = n) {i : Nat} (hi : i < fl.length) (hgb : base ≤ gb) (hne : gb ≠ rb) (ht : ∃ cs, w.heap[gb]? = some (.cells cs 98 (0, 0)))
    (hH : Kd.H kFl 98 w base (fun k => S k ∧ ¬ w.heap.size ≤ k) (.slice (some ⟨gb, 0, none⟩) n cap) fl (i : Int) oki c) (j : Nat) (hj : j + 1 ≤ 4) (u : Value) (x' : Fl) (hM : kFl.M w base okp x' (c.take j ++ [u] ++ c.drop (j + 1))) (hok : ∀ k, okp k → oki k) :
    Ring (w.setCell ⟨gb, i * 4 + j, none⟩ u) rb base S T (.slice (some ⟨gb, 0, none⟩) n cap) tv (fl.set i x') tn ∧ Goes base w (w.setCell ⟨gb, i * 4 + j, none⟩ u) := by
  obtain ⟨cs, hcs⟩ := ht
  have hs := (Kd.S_seg0 (Kd.H_mono hH (fun _ hk => by first | exact hk.1 | (and_intros <;> first | exact hk | exact hk.1 | exact hk.2 | exact hk.1.1 | exact hk.1.2 | exact hk.2.1 | exact hk.2.2 | exact hk.1.1.1 | exact hk.1.1.2 | exact hk.2.2.1 | exact hk.2.2.2))) (by omega) (by omega) (seg := [u]) (j := j) (by show j + 1 ≤ 4; exact hj) (x' := x') hM hok).1
  rw [Int.toNat_natCast, show kFl.sz = 4 from rfl] at hs
  refine ⟨⟨?_, ?_, ?_, h.dis, h.low⟩, ⟨(Below.refl _ _).setCell (p := ⟨gb, i * 4 + j, none⟩) hgb u, Only.set hcs (by decide) _ _⟩⟩
  · exact (Below.heap_setCell w ⟨gb, i * 4 + j, none⟩ u rb (fun e => hne e.symm)).trans h.blk
  · exact hs
  · exact Kd.Q_set h.trn hcs (by decide) _ _

/-- a flow's row grows, and its cell is written -/
theorem Ring.wgrow {w w1 : World} {n rb base gb cap : Nat} {S T : Nat → Prop} {tv ov ov1 : Value} {fl : List Fl} {tn : List Int} {oki : Nat → Prop} (h : Ring w rb base S T (.slice (some ⟨gb, 0, none⟩) n cap) tv fl tn) (hn : fl.length = n) {i : Nat} (hi : i < fl.length) (hgb : base ≤ gb) (hne : gb ≠ rb) (ht : ∃ cs, w.heap[gb]? = some (.cells cs 98 (0, 0))) (x x' : Fl) (hx0 : x'.qu = x.qu ∧ x'.de = x.de ∧ x'.fd = x.fd)
    (hH : Kd.H kFl 98 w base (fun k => S k ∧ ¬ w.heap.size ≤ k) (.slice (some ⟨gb, 0, none⟩) n cap) fl (i : Int) oki [.int .i64 x.qu, ov, .int .i64 x.de, .bool x.fd]) (hq : (Kd.int .i64).Q 3 w base oki ov x.ws) (hok : ∀ k, oki k → S k ∧ k ≠ gb) (hg : w.grownBy w1 ov.ownBlock) (hB : Below base w w1) (hq1 : (Kd.int .i64).Q 3 w1 base (fun k => oki k ∨ w.heap.size ≤ k) ov1 x'.ws) :
    Ring (w1.setCell ⟨gb, i * 4 + 1, none⟩ ov1) rb base (fun k => S k ∨ w.heap.size ≤ k) (fun k => T k ∧ k < w.heap.size) (.slice (some ⟨gb, 0, none⟩) n cap) tv (fl.set i x') tn ∧ Goes base w (w1.setCell ⟨gb, i * 4 + 1, none⟩ ov1) := by
  obtain ⟨cs, hcs⟩ := ht
  have hgl := blk_lt hcs
  have hH1 := Kd.H_grown hH hg (fun k hk => hq.1 k hk)
  have hs := (Kd.S_seg (ok := fun k => S k ∨ w.heap.size ≤ k) (okg := fun k => w.heap.size ≤ k) (okp := fun k => oki k ∨ w.heap.size ≤ k) (Kd.H_mono hH1 (fun k hk => ⟨.inl hk.1, hk.2⟩)) (by omega) (by omega) (seg := [ov1]) (j := 1) (by show 1 + 1 ≤ 4; omega) (x' := x')
    (by have := kFl_mkM w1 base (fun k => oki k ∨ w.heap.size ≤ k) x' hq1; rw [hx0.1, hx0.2.1, hx0.2.2] at this; exact this) (fun _ h => h) (fun k hk => ⟨.inr hk, by omega⟩)).1
  rw [Int.toNat_natCast, show kFl.sz = 4 from rfl] at hs
  have hgc : w1.heap[gb]? = some (.cells cs 98 (0, 0)) := (hg.block gb hgl (fun e => (hok gb (hq.1 gb e.symm)).2 rfl)).trans hcs
  have hbl : w1.heap[rb]? = some (.cells #[.slice (some ⟨gb, 0, none⟩) n cap, tv] 96 (0, 0)) := (hg.block rb (blk_lt h.blk) (Kd.Q_ne hq h.blk (by decide))).trans h.blk
  refine ⟨⟨?_, hs, ?_, ?_, h.low⟩, ⟨hB.setCell (p := ⟨gb, i * 4 + 1, none⟩) hgb ov1, (Only.grown hg (t := 3) (fun k hk => Kd.Q_typed hq k hk) (by decide)).trans (Only.set hgc (by decide) _ _)⟩⟩
  · exact (Below.heap_setCell w1 ⟨gb, i * 4 + 1, none⟩ ov1 rb (fun e => hne e.symm)).trans hbl
  · have ht1 := Kd.Q_grown (w1 := w1) (Kd.Q_mono (Kd.Q_bound h.trn) (fun k hk => ⟨hk.1, hk.2.2.1⟩) : (Kd.int .i64).Q 3 w base (fun k => T k ∧ k < w.heap.size) tv tn) hg (fun k hk e => h.dis k (hok k (hq.1 k e.symm)).1 hk.1)
    exact Kd.Q_set ht1 hgc (by decide) _ _
  · rintro k (h1 | h1) h2
    · exact h.dis k h1 h2.1
    · omega
/-- the turn's cell is written -/
theorem Ring.tset {w : World} {rb base : Nat} {S T : Nat → Prop} {fv tv tv1 : Value} {fl : List Fl} {tn tn1 : List Int} (h : Ring w rb base S T fv tv fl tn) (hq : (Kd.int .i64).Q 3 w base T tv1 tn1) :
    Ring (w.setCell ⟨rb, 1, none⟩ tv1) rb base S T fv tv1 fl tn1 ∧ Goes base w (w.setCell ⟨rb, 1, none⟩ tv1) :=
  ⟨⟨blk_put h.blk 1 tv1 rfl, Kd.S_set h.fls h.blk (by decide) _ _, Kd.Q_set hq h.blk (by decide) _ _, h.dis, h.low⟩, ⟨(Below.refl _ _).setCell (p := ⟨rb, 1, none⟩) h.low tv1, Only.set h.blk (by decide) _ _⟩⟩
/-- the turn grows, and its cell is written -/
theorem Ring.tgrow {w w1 : World} {rb base : Nat} {S T : Nat → Prop} {fv tv tv1 : Value} {fl : List Fl} {tn tn0 tn1 : List Int} {v0 : Value} (h : Ring w rb base S T fv tv fl tn) (h0 : (Kd.int .i64).Q 3 w base T v0 tn0) (hg : w.grownBy w1 v0.ownBlock) (hB : Below base w w1) (hq : (Kd.int .i64).Q 3 w1 base (fun k => T k ∨ w.heap.size ≤ k) tv1 tn1) :
    Ring (w1.setCell ⟨rb, 1, none⟩ tv1) rb base (fun k => S k ∧ k < w.heap.size) (fun k => T k ∨ w.heap.size ≤ k) fv tv1 fl tn1 ∧ Goes base w (w1.setCell ⟨rb, 1, none⟩ tv1) := by
  have hbl : w1.heap[rb]? = some (.cells #[fv, tv] 96 (0, 0)) := (hg.block rb (blk_lt h.blk) (Kd.Q_ne h0 h.blk (by decide))).trans h.blk
  have hs1 := Kd.S_grown (w1 := w1) h.mono.fls hg (fun k hk e => h.dis k hk.1 (h0.1 k e.symm))
  refine ⟨⟨blk_put hbl 1 tv1 rfl, Kd.S_set hs1 hbl (by decide) _ _, Kd.Q_set hq hbl (by decide) _ _, ?_, h.low⟩, ⟨hB.setCell (p := ⟨rb, 1, none⟩) h.low tv1, (Only.grown hg (t := 3) (fun k hk => Kd.Q_typed h0 k hk) (by decide)).trans (Only.set hbl (by decide) _ _)⟩⟩
  rintro k h1 (h2 | h2)
  · exact h.dis k h1.1 h2
  · omega
/-- a flow is put behind the others -/
theorem Ring.fgrow {w w1 : World} {rb base : Nat} {S T : Nat → Prop} {fv fv1 tv : Value} {fl fl1 : List Fl} {tn : List Int} (h : Ring w rb base S T fv tv fl tn) (hg : w.grownBy w1 fv.ownBlock) (hB : Below base w w1) (hs : Kd.S kFl 98 w1 base (fun k => S k ∨ w.heap.size ≤ k) fv1 fl1) :
    Ring (w1.setCell ⟨rb, 0, none⟩ fv1) rb base (fun k => S k ∨ w.heap.size ≤ k) (fun k => T k ∧ k < w.heap.size) fv1 tv fl1 tn ∧ Goes base w (w1.setCell ⟨rb, 0, none⟩ fv1) := by
  have hbl : w1.heap[rb]? = some (.cells #[fv, tv] 96 (0, 0)) := (hg.block rb (blk_lt h.blk) (Kd.S_ne h.fls h.blk (by decide))).trans h.blk
  have ht1 := Kd.Q_grown (w1 := w1) h.mono.trn hg (fun k hk e => h.dis k ((Kd.S_R h.fls).1 k e.symm |> fun hh => hh) hk.1)
  refine ⟨⟨blk_put hbl 0 fv1 rfl, Kd.S_set hs hbl (by decide) _ _, Kd.Q_set ht1 hbl (by decide) _ _, ?_, h.low⟩, ⟨hB.setCell (p := ⟨rb, 0, none⟩) h.low fv1, (Only.grown hg (t := 98) (fun k hk => Kd.S_typed h.fls k hk) (by decide)).trans (Only.set hbl (by decide) _ _)⟩⟩
  rintro k (h1 | h1) h2
  · exact h.dis k h1 h2.1
  · omega
/-- the first packet of a flow -/
def sentF (fl : List Fl) (tn : List Int) (i : Nat) : Option (List Fl × List Int × S52) :=
  match (fl.getD i zFl).ws with
  | [] => none
  | s :: r => if r = [] then (match tn with | [] => none | _ :: t => some (fl.set i { fl.getD i zFl with ws := [], de := 0, fd := false }, t, ⟨0, i, s⟩)) else some (fl.set i { fl.getD i zFl with ws := r, de := wrap64 ((fl.getD i zFl).de - s) }, tn, ⟨0, i, s⟩)
theorem Ring.at_ {w : World} {n rb base gb cap : Nat} {S T : Nat → Prop} {tv : Value} {fl : List Fl} {tn : List Int} (h : Ring w rb base S T (.slice (some ⟨gb, 0, none⟩) n cap) tv fl tn) (hn : fl.length = n) (i : Nat) (hi : i < fl.length) (x : Fl) (hx : fl.getD i zFl = x) :
    ∃ A c oki, base ≤ gb ∧ gb ≠ rb ∧ gb < w.heap.size ∧ rb < w.heap.size ∧ (∃ cs, w.heap[gb]? = some (.cells cs 98 (0, 0))) ∧ w.cell? ⟨rb, 0, none⟩ = some (.slice (some ⟨gb, 0, none⟩) n cap) ∧ w.cell? ⟨rb, 1, none⟩ = some tv ∧ w.frozen? ⟨rb, 0, none⟩ = false ∧ w.frozen? ⟨rb, 1, none⟩ = false ∧ w.cell? ⟨gb, i * 4, none⟩ = some (.int .i64 x.qu) ∧ w.cell? ⟨gb, i * 4 + 1, none⟩ = some (.slice A x.ws.length c) ∧ w.cell? ⟨gb, i * 4 + 2, none⟩ = some (.int .i64 x.de) ∧ w.cell? ⟨gb, i * 4 + 3, none⟩ = some (.bool x.fd) ∧ (∀ j, w.frozen? ⟨gb, i * 4 + j, none⟩ = false) ∧ x.ws.length ≤ c ∧ (Kd.int .i64).Q 3 w base oki (.slice A x.ws.length c) x.ws ∧ (∀ k, oki k → S k ∧ k ≠ gb) ∧ Kd.H kFl 98 w base (fun k => S k ∧ ¬ w.heap.size ≤ k) (.slice (some ⟨gb, 0, none⟩) n cap) fl (i : Int) oki [.int .i64 x.qu, .slice A x.ws.length c, .int .i64 x.de, .bool x.fd] := by
  subst hn
  obtain ⟨gb', cap', ov, oki, e0, e1, e2, e3, c0, c1, c2, c3, e4, e5, e6, e7⟩ := h.elem i hi x hx
  injection e0 with e0 _ e0'
  injection e0 with e0
  injection e0 with e0
  subst e0
  subst e0'
  obtain ⟨A, c, rfl, hlc⟩ := Kd.Q_slice e5
  obtain ⟨cs, hcs⟩ := e3
  exact ⟨A, c, oki, e1, e2, blk_lt hcs, blk_lt h.blk, ⟨cs, hcs⟩, by rw [blk_cell h.blk]; rfl, by rw [blk_cell h.blk]; rfl, blk_frozen h.blk 0, blk_frozen h.blk 1, c0, c1, c2, c3, e4, hlc, e5, e6, e7⟩
theorem getD_set {α : Type} (l : List α) (i : Nat) (x z : α) (hi : i < l.length) : (l.set i x).getD i z = x := by
  rw [List.getD_eq_getElem?_getD, List.getElem?_set_self hi]
  rfl
theorem Ring.put_de {w : World} {n rb base gb cap c : Nat} {A : Option Addr} {S T : Nat → Prop} {tv : Value} {fl : List Fl} {tn : List Int} {oki : Nat → Prop} (h : Ring w rb base S T (.slice (some ⟨gb, 0, none⟩) n cap) tv fl tn) (hn : fl.length = n) {i : Nat} (hi : i < fl.length) (hgb : base ≤ gb) (hne : gb ≠ rb) (ht : ∃ cs, w.heap[gb]? = some (.cells cs 98 (0, 0))) (x : Fl)
    (e5 : (Kd.int .i64).Q 3 w base oki (.slice A x.ws.length c) x.ws) (hH : Kd.H kFl 98 w base (fun k => S k ∧ ¬ w.heap.size ≤ k) (.slice (some ⟨gb, 0, none⟩) n cap) fl (i : Int) oki [.int .i64 x.qu, .slice A x.ws.length c, .int .i64 x.de, .bool x.fd]) (z : Int) :
    Ring (w.setCell ⟨gb, i * 4 + 2, none⟩ (.int .i64 z)) rb base S T (.slice (some ⟨gb, 0, none⟩) n cap) tv (fl.set i { x with de := z }) tn ∧ Goes base w (w.setCell ⟨gb, i * 4 + 2, none⟩ (.int .i64 z)) :=
  h.put hn hi hgb hne ht hH 2 (by decide) (.int .i64 z) { x with de := z } (kFl_mkM w base oki { x with de := z } e5) (fun _ h => h)
theorem Ring.put_fd {w : World} {n rb base gb cap c : Nat} {A : Option Addr} {S T : Nat → Prop} {tv : Value} {fl : List Fl} {tn : List Int} {oki : Nat → Prop} (h : Ring w rb base S T (.slice (some ⟨gb, 0, none⟩) n cap) tv fl tn) (hn : fl.length = n) {i : Nat} (hi : i < fl.length) (hgb : base ≤ gb) (hne : gb ≠ rb) (ht : ∃ cs, w.heap[gb]? = some (.cells cs 98 (0, 0))) (x : Fl)
    (e5 : (Kd.int .i64).Q 3 w base oki (.slice A x.ws.length c) x.ws) (hH : Kd.H kFl 98 w base (fun k => S k ∧ ¬ w.heap.size ≤ k) (.slice (some ⟨gb, 0, none⟩) n cap) fl (i : Int) oki [.int .i64 x.qu, .slice A x.ws.length c, .int .i64 x.de, .bool x.fd]) (z : Bool) :
    Ring (w.setCell ⟨gb, i * 4 + 3, none⟩ (.bool z)) rb base S T (.slice (some ⟨gb, 0, none⟩) n cap) tv (fl.set i { x with fd := z }) tn ∧ Goes base w (w.setCell ⟨gb, i * 4 + 3, none⟩ (.bool z)) :=
  h.put hn hi hgb hne ht hH 3 (by decide) (.bool z) { x with fd := z } (kFl_mkM w base oki { x with fd := z } e5) (fun _ h => h)
/-- a row without its first one -/
def cutv (A : Option Addr) (n c : Nat) : Value := .slice (if c = 1 then A else A.map (·.add 1)) (n - 1) (c - 1)
theorem cutv_run (A : Option Addr) (n c : Nat) (h : 1 ≤ n) (W : World) : (Instr.slice 22 (.slice A n c) (some (.int .i64 1)) none none).run Try.prog W = .ok (cutv A n c) W := by
  obtain ⟨i0, hi, _, hsz, _⟩ := info_parts info3
  exact cut_from 22 3 .i64 Try.underlying22 hi 1 hsz A n c 1 (by decide) (by omega) W
theorem Ring.put_cut {w : World} {n rb base gb cap c : Nat} {A : Option Addr} {S T : Nat → Prop} {tv : Value} {fl : List Fl} {tn : List Int} {oki : Nat → Prop} (h : Ring w rb base S T (.slice (some ⟨gb, 0, none⟩) n cap) tv fl tn) (hn : fl.length = n) {i : Nat} (hi : i < fl.length) (hgb : base ≤ gb) (hne : gb ≠ rb) (ht : ∃ cs, w.heap[gb]? = some (.cells cs 98 (0, 0))) (x : Fl)
    (e5 : (Kd.int .i64).Q 3 w base oki (.slice A x.ws.length c) x.ws) (hH : Kd.H kFl 98 w base (fun k => S k ∧ ¬ w.heap.size ≤ k) (.slice (some ⟨gb, 0, none⟩) n cap) fl (i : Int) oki [.int .i64 x.qu, .slice A x.ws.length c, .int .i64 x.de, .bool x.fd]) (hl : 1 ≤ x.ws.length) :
    Ring (w.setCell ⟨gb, i * 4 + 1, none⟩ (cutv A x.ws.length c)) rb base S T (.slice (some ⟨gb, 0, none⟩) n cap) tv (fl.set i { x with ws := x.ws.drop 1 }) tn ∧ Goes base w (w.setCell ⟨gb, i * 4 + 1, none⟩ (cutv A x.ws.length c)) :=
  h.put hn hi hgb hne ht hH 1 (by decide) _ { x with ws := x.ws.drop 1 } (kFl_mkM w base oki { x with ws := x.ws.drop 1 } (Kd.Q_drop e5 hl)) (fun _ h => h)
theorem Ring.tcut {w : World} {rb base c n : Nat} {A : Option Addr} {S T : Nat → Prop} {fv : Value} {fl : List Fl} {tn : List Int} (h : Ring w rb base S T fv (.slice A n c) fl tn) (hl : 1 ≤ tn.length) :
    Ring (w.setCell ⟨rb, 1, none⟩ (cutv A n c)) rb base S T fv (cutv A n c) fl (tn.drop 1) ∧ Goes base w (w.setCell ⟨rb, 1, none⟩ (cutv A n c)) :=
  h.tset (Kd.Q_drop h.trn hl)
theorem Only.blk {w w1 : World} (h : Only w w1) {k : Nat} {cs : Array Value} (hk : w.heap[k]? = some (.cells cs 52 (0, 0))) : w1.heap[k]? = some (.cells cs 52 (0, 0)) := (h k cs hk).trans hk
theorem Ring.drew {w : World} {rb base : Nat} {S T : Nat → Prop} {fv tv : Value} {fl : List Fl} {tn : List Int} (h : Ring w rb base S T fv tv fl tn) : Ring w.drew rb base S T fv tv fl tn := h.of_below (below_drew (Below.refl _ _))
theorem Goes.drew {base : Nat} {a w : World} (h : Goes base a w) : Goes base a w.drew := ⟨h.bel.drew, fun k cs hk => h.onl k cs hk⟩
theorem Ring.set52 {w3 : World} {rb base g : Nat} {S T : Nat → Prop} {fv tv : Value} {fl : List Fl} {tn : List Int} {cs : Array Value} (h : Ring w3 rb base S T fv tv fl tn) (hb : w3.heap[g]? = some (.cells cs 52 (0, 0))) (j : Nat) (u : Value) : Ring (w3.setCell ⟨g, j, none⟩ u) rb base S T fv tv fl tn :=
  ⟨(Below.heap_setCell w3 ⟨g, j, none⟩ u rb (fun e => typed_ne hb h.blk (by decide) e)).trans h.blk, Kd.S_set h.fls hb (by decide) _ _, Kd.Q_set h.trn hb (by decide) _ _, h.dis, h.low⟩
theorem Goes.set_new {w w3 : World} {base g : Nat} (h : Goes base w w3) (hg : w.heap.size ≤ g) (hb : base ≤ g) (j : Nat) (u : Value) : Goes base w (w3.setCell ⟨g, j, none⟩ u) :=
  ⟨h.bel.setCell (p := ⟨g, j, none⟩) hb u, fun k cs hk => (Below.heap_setCell w3 ⟨g, j, none⟩ u k (fun e => by have := blk_lt hk; have e1 : k = g := e; omega)).trans (h.onl k cs hk)⟩
theorem Ring.res {w w3 : World} {rb base g : Nat} {S T : Nat → Prop} {fv tv a b c : Value} {fl : List Fl} {tn : List Int} (h : Ring w3 rb base S T fv tv fl tn) (hb : w3.heap[g]? = some (.cells #[a, b, c] 52 (0, 0))) (hG : Goes base w w3) (hg : w.heap.size ≤ g) (hl : base ≤ w.heap.size) (v0 v1 v2 : Value) :
    (((w3.setCell ⟨g, 0, none⟩ v0).setCell ⟨g, 1, none⟩ v1).setCell ⟨g, 2, none⟩ v2).heap[g]? = some (.cells #[v0, v1, v2] 52 (0, 0)) ∧ Ring (((w3.setCell ⟨g, 0, none⟩ v0).setCell ⟨g, 1, none⟩ v1).setCell ⟨g, 2, none⟩ v2) rb base S T fv tv fl tn ∧ Goes base w (((w3.setCell ⟨g, 0, none⟩ v0).setCell ⟨g, 1, none⟩ v1).setCell ⟨g, 2, none⟩ v2) := by
  have h0 := blk_put hb 0 v0 rfl
  have h1 := blk_put h0 1 v1 rfl
  have h2 := blk_put h1 2 v2 rfl
  exact ⟨h2, ((h.set52 hb 0 v0).set52 h0 1 v1).set52 h1 2 v2, ((hG.set_new hg (by omega) 0 v0).set_new hg (by omega) 1 v1).set_new hg (by omega) 2 v2⟩
theorem two_blocks (w : World) (a b : Obj) : ((w.alloc a).alloc b).heap[w.heap.size]? = some a ∧ ((w.alloc a).alloc b).heap[w.heap.size + 1]? = some b := by
  have e : (w.alloc a).heap.size = w.heap.size + 1 := by simp
  refine ⟨(Below.heap_alloc _ _ _ (by omega)).trans Array.getElem?_push_size, ?_⟩
  have h : ((w.alloc a).alloc b).heap[(w.alloc a).heap.size]? = some b := Array.getElem?_push_size
  rwa [e] at h
/-- what a flow is owed in its turn -/
def fedF (x : Fl) : Fl := if x.fd = true then x else { x with de := wrap64 (x.de + x.qu), fd := true }
def sendsF : Nat → List Fl → List Int → Option (List Fl × List Int × S52)
  | 0, _, _ => none
  | k + 1, fl, tn =>
    match tn with
    | [] => none
    | t :: tr => if 0 ≤ t ∧ t < fl.length then
        (match (fedF (fl.getD t.toNat zFl)).ws with
        | [] => none
        | s :: _ => if s ≤ (fedF (fl.getD t.toNat zFl)).de then sentF (fl.set t.toNat (fedF (fl.getD t.toNat zFl))) (t :: tr) t.toNat
          else sendsF k (fl.set t.toNat { fedF (fl.getD t.toNat zFl) with fd := false }) (tr ++ [t]))
      else none
theorem fedF_ws (x : Fl) : (fedF x).ws = x.ws := by
  unfold fedF
  split <;> rfl
theorem set_getD {α : Type} (l : List α) (i : Nat) (x z : α) (hi : i < l.length) (h : l.getD i z = x) : l.set i x = l := by
  rw [List.getD_eq_getElem?_getD, List.getElem?_eq_getElem hi] at h
  have h' : l[i] = x := h
  subst h'
  exact List.set_getElem_self hi
set_option maxHeartbeats 4000000 in
set_option maxRecDepth 100000 in
theorem sent_calls (fl : List Fl) (tn : List Int) (i : Nat) (w : World) (rb base : Nat) (hi : i < fl.length) (hR : FR w rb base fl tn) (fl' : List Fl) (tn' : List Int) (o : S52) (h : sentF fl tn i = some (fl', tn', o)) (hb : base ≤ w.heap.size) :
    Calls Try.prog 51 #[.pointer (some ⟨rb, 0, none⟩), .int .i64 (i : Int)] w fun e w' => e = .returned (.agg #[.int .i64 o.f0, .int .i64 o.f1, .int .i64 o.f2]) ∧ FR w' rb base fl' tn' ∧ Goes base w w' := by
  have hu52 := Try.underlying52
  have hu98 := Try.underlying98
  have hu96 := Try.underlying96
  obtain ⟨S, T, fv, tv, hR⟩ := hR
  obtain ⟨x, hx⟩ : ∃ x, fl.getD i zFl = x := ⟨_, rfl⟩
  unfold sentF at h
  rw [hx] at h
  obtain ⟨gb, cap, ov0, ok0, rfl, hrest⟩ := hR.elem i hi x hx
  clear hrest ov0 ok0
  rcases hws : x.ws with _ | ⟨s, r⟩
  · rw [hws] at h
    exact absurd h (by simp)
  rw [hws] at h
  have H := Aside0.mk h
  have HR := Aside0.mk hR
  have HX := Aside0.mk hx
  have HWS := Aside0.mk hws
  clear h hx
  obtain ⟨n, hn⟩ : ∃ n, fl.length = n := ⟨_, rfl⟩
  have HN := Aside0.mk hn
  rw [hn] at HR
  have k0 : decide ((i : Int) < (n : Int)) = true := decide_eq_true (by omega)
  have k1 : i < n := by omega
  obtain ⟨A, c, oki, e1, e2, hg0, hb0, e3, r0, r1, z0, z1, c0, c1, c2, c3, e4, hlc, e5, e6, e7⟩ := HR.out.at_ hn i hi x HX.out
  have hlen : x.ws.length = r.length + 1 := by rw [hws]; rfl
  obtain ⟨ad, rfl, hs⟩ := Kd.at_int (Kd.Q_reads' e5).2.2 0 (by omega) (by omega)
  rw [show rd x.ws 0 = s by rw [hws]; rfl] at hs
  have hs1 : ∀ o, (w.alloc o).cell? (ad.add 0) = some (.int .i64 s) := fun o => pw_cell_below (below_alloc (Below.refl _ _) o) hs
  have hs2 : ∀ o, (w.alloc o).cell? ad = some (.int .i64 s) := fun o => by have := hs1 o; rwa [show ad.add 0 = ad from rfl] at this
  have hpos : 0 < x.ws.length := by omega
  clear e7 e5 e6 e4 hR hws hlc e3 z0 z1
  go_enter Try.func51, Try.ntmps51
  go_upto_region 2 with (fail)
  go_cut [6] (fun v6 wc => v6 = .pointer (some ⟨w.heap.size + 1, 0, none⟩) ∧ Aside0 (wc.heap[w.heap.size]? = some (Obj.cells #[.int .i64 0, .int .i64 0, .int .i64 0] 52 (0, 0))) ∧ Aside0 (wc.heap[w.heap.size + 1]? = some (Obj.cells #[.int .i64 0, .int .i64 (i : Int), .int .i64 s] 52 (0, 0))) ∧ Aside0 (Below w.heap.size w wc))
  case first =>
    go_wp2
    go_meet
    case rel =>
      exact ⟨rfl, ⟨(two_blocks _ _ _).1⟩, ⟨(two_blocks _ _ _).2⟩, ⟨below_alloc (below_alloc (Below.refl _ _) _) _⟩⟩
  case rest =>
    obtain ⟨rfl, HO, HP, HB⟩ := hcut
    clear r0 r1 c0 c1 c2 c3 hs hs1 hs2 hg0 hb0
    have HR1 := Aside0.mk (HR.out.of_below HB.out)
    obtain ⟨A, c, oki, e1, e2, hg0, hb0, e3, r0, r1, z0, z1, c0, c1, c2, c3, e4, hlc, e5, e6, e7⟩ := HR1.out.at_ HN.out i hi x HX.out
    have z2 := e4 2
    have q0 : wc.cell? ⟨w.heap.size + 1, 2, none⟩ = some (.int .i64 s) := by rw [blk_cell HP.out]; rfl
    go_upto_region 3 with (fail)
    go_cut [] (fun w2 => Aside0 (Ring w2 rb base S T (.slice (some ⟨gb, 0, none⟩) n cap) tv (fl.set i { x with de := wrap64 (x.de - s) }) tn) ∧ Aside0 (Goes base wc w2))
    case first =>
      go_region_law (fail)
      all_goals
        go_wp2
        go_meet
        case rel =>
          simp only [i64_w]
          exact ⟨⟨(HR1.out.put_de HN.out hi e1 e2 e3 x e5 e7 _).1.drew⟩, ⟨(HR1.out.put_de HN.out hi e1 e2 e3 x e5 e7 _).2.drew⟩⟩
    case rest =>
      obtain ⟨HR2, HG2⟩ := hcut
      obtain ⟨w2, hw2⟩ : ∃ y : World, y = wc := ⟨_, rfl⟩
      subst hw2
      obtain ⟨x1, hx1⟩ : ∃ y, ({ x with de := wrap64 (x.de - s) } : Fl) = y := ⟨_, rfl⟩
      rw [hx1] at HR2
      have hxl : x1.ws.length = r.length + 1 := by rw [← hx1]; exact hlen
      have HX1 := Aside0.mk hx1
      clear r0 r1 z0 z1 c0 c1 c2 c3 hlc e1 e2 hg0 hb0 z2 q0 e3 e4 e5 e6 e7 hx1 hlen
      have hn2 : (fl.set i x1).length = n := by rw [List.length_set]; exact HN.out
      obtain ⟨A, c, oki, e1, e2, hg0, hb0, e3, r0, r1, z0, z1, c0, c1, c2, c3, e4, hlc, e5, e6, e7⟩ := HR2.out.at_ hn2 i (by omega) x1 (getD_set fl i x1 zFl (by omega))
      have z2 := e4 1
      have E3 := Aside0.mk e3
      have E5 := Aside0.mk e5
      have E7 := Aside0.mk e7
      have HN2 := Aside0.mk hn2
      have HL := Aside0.mk hxl
      clear e3 e4 e5 e6 e7 hlc hn2
      go_upto_region 4 with (fail)
      go_cut [] (fun w3 => Aside0 (Ring w3 rb base S T (.slice (some ⟨gb, 0, none⟩) n cap) tv ((fl.set i x1).set i { x1 with ws := x1.ws.drop 1 }) tn) ∧ Aside0 (Goes base w2 w3))
      case first =>
        go_wp2
        all_goals
          go_meet
          case rel =>
            have hp := HR2.out.put_cut HN2.out (by have := HN2.out; omega) e1 e2 E3.out x1 E5.out E7.out (by omega)
            rw [show cutv A x1.ws.length c = .slice (if c = 1 then A else A.map (·.add 1)) r.length (c - 1) by unfold cutv; rw [HL.out]; rfl] at hp
            first
              | (rw [if_neg (by assumption)] at hp; exact ⟨⟨hp.1⟩, ⟨hp.2⟩⟩)
              | (rw [if_pos (by assumption), show c - 1 = 0 by omega] at hp; exact ⟨⟨hp.1⟩, ⟨hp.2⟩⟩)
      case rest =>
        obtain ⟨HR3, HG3⟩ := hcut
        obtain ⟨w3, hw3⟩ : ∃ y : World, y = wc := ⟨_, rfl⟩
        subst hw3
        obtain ⟨x2, hx2⟩ : ∃ y, ({ x1 with ws := x1.ws.drop 1 } : Fl) = y := ⟨_, rfl⟩
        rw [hx2, List.set_set] at HR3
        have hx2l : x2.ws = r := by rw [← hx2, ← HX1.out]; show x.ws.drop 1 = r; rw [HWS.out]; rfl
        have HX2 := Aside0.mk hx2
        have HG := Aside0.mk (((Goes.below HB.out hb).trans HG2.out).trans HG3.out)
        have HO3 := Aside0.mk (HG3.out.onl.blk (HG2.out.onl.blk HO.out))
        have HP3 := Aside0.mk (HG3.out.onl.blk (HG2.out.onl.blk HP.out))
        clear r0 r1 z0 z1 c0 c1 c2 c3 e1 e2 hg0 hb0 z2 E3 E5 E7 hx2 hxl HL HN2 HR1 HR2 HG2 HG3 HO HP
        have hn3 : (fl.set i x2).length = n := by rw [List.length_set]; exact HN.out
        obtain ⟨A, c, oki, e1, e2, hg0, hb0, e3, r0, r1, z0, z1, c0, c1, c2, c3, e4, hlc, e5, e6, e7⟩ := HR3.out.at_ hn3 i (by omega) x2 (getD_set fl i x2 zFl (by omega))
        have z2 := e4 2
        have z3 := e4 3
        have E3 := Aside0.mk e3
        have E5 := Aside0.mk e5
        have E7 := Aside0.mk e7
        have HN3 := Aside0.mk hn3
        clear e3 e4 e5 e6 e7 hlc hn3
        rw [hx2l] at c1
        by_cases c9 : r.length = 0
        · have hr0 : r = [] := List.eq_nil_of_length_eq_zero c9
          have h := H.out
          simp only [if_pos hr0] at h
          rcases tn with _ | ⟨t0, tr⟩
          · exact absurd h (by simp)
          simp only [Option.some.injEq, Prod.mk.injEq] at h
          obtain ⟨rfl, rfl, rfl⟩ := h
          go_upto_region 6 with (fail)
          go_cut [] (fun w4 => Aside0 (Ring w4 rb base S T (.slice (some ⟨gb, 0, none⟩) n cap) tv ((fl.set i { x with ws := [], de := 0, fd := false })) (t0 :: tr)) ∧ Aside0 (Goes base w3 w4))
          case first =>
            go_wp2
            go_meet
            case rel =>
              obtain ⟨p1, p2⟩ := HR3.out.put_de HN3.out (by have := HN3.out; omega) e1 e2 E3.out x2 E5.out E7.out 0
              have hn4 : ((fl.set i x2).set i { x2 with de := 0 }).length = n := by rw [List.length_set]; exact HN3.out
              obtain ⟨A4, c4, oki4, a1, a2, a3, a4, a5, _, _, _, _, _, _, _, _, _, _, a6, _, a7⟩ := p1.at_ hn4 i (by omega) { x2 with de := 0 } (getD_set _ i _ zFl (by rw [List.length_set]; have := HN.out; omega))
              obtain ⟨p3, p4⟩ := p1.put_fd hn4 (by omega) a1 a2 a5 { x2 with de := 0 } a6 a7 false
              rw [List.set_set, List.set_set] at p3
              refine ⟨⟨?_⟩, ⟨p2.trans p4⟩⟩
              have ex : ({ x2 with de := 0, fd := false } : Fl) = { x with ws := [], de := 0, fd := false } := by rw [← HX2.out, ← HX1.out]; show ({ x with ws := x.ws.drop 1, de := 0, fd := false } : Fl) = _; rw [HWS.out, hr0]; rfl
              rw [← ex]
              exact p3
          case rest =>
            obtain ⟨HR4, HG4⟩ := hcut
            obtain ⟨w4, hw4⟩ : ∃ y : World, y = wc := ⟨_, rfl⟩
            subst hw4
            have HO4 := Aside0.mk (HG4.out.onl.blk HO3.out)
            have HP4 := Aside0.mk (HG4.out.onl.blk HP3.out)
            obtain ⟨At, ct, rfl, hlt⟩ := Kd.Q_slice HR4.out.trn
            clear r0 r1 z0 z1 c0 c1 c2 c3 e1 e2 hg0 hb0 z2 z3
            have r1 : w4.cell? ⟨rb, 1, none⟩ = some (.slice At (t0 :: tr).length ct) := by rw [blk_cell HR4.out.blk]; rfl
            have z1 := blk_frozen HR4.out.blk 1
            have hb0 := blk_lt HR4.out.blk
            have hlen : (t0 :: tr).length = tr.length + 1 := rfl
            rw [hlen] at r1
            go_upto_region 7 with (fail)
            go_cut [] (fun w5 => Aside0 (∃ tv', Ring w5 rb base S T (.slice (some ⟨gb, 0, none⟩) n cap) tv' ((fl.set i { x with ws := [], de := 0, fd := false })) tr) ∧ Aside0 (Goes base w4 w5))
            case first =>
              go_wp2
              all_goals
                go_meet
                case rel =>
                  have hp := HR4.out.tcut (by rw [hlen]; omega)
                  rw [show cutv At (t0 :: tr).length ct = .slice (if ct = 1 then At else At.map (·.add 1)) tr.length (ct - 1) from rfl] at hp
                  first
                    | (rw [if_neg (by assumption)] at hp; exact ⟨⟨⟨_, hp.1⟩⟩, ⟨hp.2⟩⟩)
                    | (rw [if_pos (by assumption), show ct - 1 = 0 by omega] at hp; exact ⟨⟨⟨_, hp.1⟩⟩, ⟨hp.2⟩⟩)
            case rest =>
              obtain ⟨HR5, HG5⟩ := hcut
              obtain ⟨w5, hw5⟩ : ∃ y : World, y = wc := ⟨_, rfl⟩
              subst hw5
              have HO5 := Aside0.mk (HG5.out.onl.blk HO4.out)
              have HP5 := Aside0.mk (HG5.out.onl.blk HP4.out)
              have HGG := Aside0.mk ((HG.out.trans HG4.out).trans HG5.out)
              clear r1 z1 hb0
              have q0 : w5.cell? ⟨w.heap.size + 1, 0, none⟩ = some (.int .i64 0) := by rw [blk_cell HP5.out]; rfl
              have q1 : w5.cell? ⟨w.heap.size + 1, 1, none⟩ = some (.int .i64 (i : Int)) := by rw [blk_cell HP5.out]; rfl
              have q2 : w5.cell? ⟨w.heap.size + 1, 2, none⟩ = some (.int .i64 s) := by rw [blk_cell HP5.out]; rfl
              have y0 := blk_frozen HO5.out 0
              have y1 := blk_frozen HO5.out 1
              have y2 := blk_frozen HO5.out 2
              have g0 : w5.cell? ⟨w.heap.size, 0, none⟩ = some (.int .i64 0) := by rw [blk_cell HO5.out]; rfl
              have g1 : w5.cell? ⟨w.heap.size, 1, none⟩ = some (.int .i64 0) := by rw [blk_cell HO5.out]; rfl
              have g2 : w5.cell? ⟨w.heap.size, 2, none⟩ = some (.int .i64 0) := by rw [blk_cell HO5.out]; rfl
              go_wp2
              obtain ⟨tv', hR5⟩ := HR5.out
              have hp := hR5.res HO5.out HGG.out (Nat.le_refl _) hb (.int .i64 0) (.int .i64 (i : Int)) (.int .i64 s)
              refine bodyPost_ret (results_cell_row rfl _ _ w.heap.size 52 #[.int .i64 0, .int .i64 (i : Int), .int .i64 s] (0, 0) _ rfl hp.1 Try.underlying52 rfl (by kernel_rfl)) rfl ⟨rfl, ⟨_, _, _, _, hp.2.1⟩, hp.2.2⟩
        · have q0 : w3.cell? ⟨w.heap.size + 1, 0, none⟩ = some (.int .i64 0) := by rw [blk_cell HP3.out]; rfl
          have q1 : w3.cell? ⟨w.heap.size + 1, 1, none⟩ = some (.int .i64 (i : Int)) := by rw [blk_cell HP3.out]; rfl
          have q2 : w3.cell? ⟨w.heap.size + 1, 2, none⟩ = some (.int .i64 s) := by rw [blk_cell HP3.out]; rfl
          have y0 := blk_frozen HO3.out 0
          have y1 := blk_frozen HO3.out 1
          have y2 := blk_frozen HO3.out 2
          have g0 : w3.cell? ⟨w.heap.size, 0, none⟩ = some (.int .i64 0) := by rw [blk_cell HO3.out]; rfl
          have g1 : w3.cell? ⟨w.heap.size, 1, none⟩ = some (.int .i64 0) := by rw [blk_cell HO3.out]; rfl
          have g2 : w3.cell? ⟨w.heap.size, 2, none⟩ = some (.int .i64 0) := by rw [blk_cell HO3.out]; rfl
          have hr0 : ¬ r = [] := fun e => c9 (by rw [e]; rfl)
          have h := H.out
          simp only [if_neg hr0, Option.some.injEq, Prod.mk.injEq] at h
          obtain ⟨rfl, rfl, rfl⟩ := h
          have ex : x2 = { x with ws := r, de := wrap64 (x.de - s) } := by rw [← HX2.out, ← HX1.out]; show ({ x with ws := x.ws.drop 1, de := _ } : Fl) = _; rw [HWS.out]; rfl
          rw [ex] at HR3
          go_wp2
          have hp := HR3.out.res HO3.out HG.out (Nat.le_refl _) hb (.int .i64 0) (.int .i64 (i : Int)) (.int .i64 s)
          refine bodyPost_ret (results_cell_row rfl _ _ w.heap.size 52 #[.int .i64 0, .int .i64 (i : Int), .int .i64 s] (0, 0) _ rfl hp.1 Try.underlying52 rfl (by kernel_rfl)) rfl ⟨rfl, ⟨_, _, _, _, hp.2.1⟩, hp.2.2⟩
theorem drewN_heap (w : World) (m : Nat) : (w.drewN m).heap = w.heap := by
  induction m generalizing w with
  | zero => rfl
  | succ m ih => first | rfl | (show ((w.drew).drewN m).heap = _; rw [ih]; rfl)
theorem two_res (w : World) (a b : Obj) (nq : Nat) {w5 : World} (h : Below (((w.alloc a).alloc b).drewN nq).heap.size (((w.alloc a).alloc b).drewN nq) w5) : w5.heap[w.heap.size + 1]? = some b := by
  have e : (((w.alloc a).alloc b).drewN nq).heap.size = w.heap.size + 2 := by rw [drewN_heap]; simp
  refine (h.block (w.heap.size + 1) (by omega)).trans ?_
  rw [drewN_heap]
  exact (two_blocks w a b).2
theorem two_bel (w : World) (a b : Obj) (nq : Nat) {w5 : World} (h : Below (((w.alloc a).alloc b).drewN nq).heap.size (((w.alloc a).alloc b).drewN nq) w5) : Below w.heap.size w w5 :=
  below_step (pw_below_drewN (below_alloc (below_alloc (Below.refl _ _) a) b) nq) h
theorem two_res2 (w : World) (a b : Obj) (m nq : Nat) {w5 : World} (h : Below ((((w.alloc a).alloc b).drewN m).drewN nq).heap.size ((((w.alloc a).alloc b).drewN m).drewN nq) w5) : w5.heap[w.heap.size + 1]? = some b := by
  have e : ((((w.alloc a).alloc b).drewN m).drewN nq).heap.size = w.heap.size + 2 := by rw [drewN_heap, drewN_heap]; simp
  refine (h.block (w.heap.size + 1) (by omega)).trans ?_
  rw [drewN_heap, drewN_heap]
  exact (two_blocks w a b).2
theorem two_bel2 (w : World) (a b : Obj) (m nq : Nat) {w5 : World} (h : Below ((((w.alloc a).alloc b).drewN m).drewN nq).heap.size ((((w.alloc a).alloc b).drewN m).drewN nq) w5) : Below w.heap.size w w5 :=
  below_step (pw_below_drewN (pw_below_drewN (below_alloc (below_alloc (Below.refl _ _) a) b) m) nq) h
theorem FR.of_grown52 {W w1 : World} {rb base b : Nat} {fl : List Fl} {tn : List Int} {ok : Nat → Prop} {v : Value} {xs : List S52} (h : FR W rb base fl tn) (hR : Kd.R k52 52 W b ok v xs) (hg : W.grownBy w1 v.ownBlock) : FR w1 rb base fl tn := by
  obtain ⟨S, T, fv, tv, h⟩ := h
  exact ⟨S, T, fv, tv, ⟨(hg.block rb (blk_lt h.blk) (Kd.R_ne hR h.blk (by decide))).trans h.blk, Kd.S_over' h.fls (Kd.R_typed hR) (by decide) hg, Kd.Q_over' h.trn (Kd.R_typed hR) (by decide) hg, h.dis, h.low⟩⟩
theorem goes_of_below {w w1 : World} (h : Below w.heap.size w w1) : Goes w.heap.size w w1 := ⟨h, fun k _ hk => h.block k (blk_lt hk)⟩
set_option maxHeartbeats 4000000 in
set_option maxRecDepth 100000 in
theorem sends_none (fl : List Fl) (w : World) (rb base : Nat) (hR : FR w rb base fl []) (hb : base ≤ w.heap.size) :
    Calls Try.prog 42 #[.pointer (some ⟨rb, 0, none⟩)] w fun e w' => e = .returned (.agg #[.int .i64 7, .int .i64 0, .int .i64 0]) ∧ FR w' rb base fl [] ∧ Goes base w w' := by
  have hu52 := Try.underlying52
  have hu98 := Try.underlying98
  have hu96 := Try.underlying96
  have HF0 := Aside0.mk hR
  obtain ⟨S, T, fv, tv, hR⟩ := hR
  obtain ⟨A, c, rfl, _⟩ := Kd.Q_slice hR.trn
  have r1 : w.cell? ⟨rb, 1, none⟩ = some (.slice A 0 c) := by rw [blk_cell hR.blk]; rfl
  have hb0 := blk_lt hR.blk
  have HR := Aside0.mk hR
  clear hR
  go_enter Try.func42, Try.ntmps42
  go_wp2_with (first
    | ((with_reducible refine gate_callee (f := 41) rfl ?_); refine goesL_ _ rfl rfl Try.func41 (by kernel_rfl) rfl #[.int .i64 7] rfl (by (try simp only [List.map_toArray, List.map_cons, List.map_nil]); first | done | rfl) ?_; refine (fair_no.calls 7 7 0 0 _ rfl).mono ?_; rintro e w5 ⟨rfl, hb5⟩; refine ⟨_, rfl, ?_⟩; have HB5 := Aside0.mk hb5; have HO5 := Aside0.mk ((hb5.block w.heap.size (by simp)).trans (show (w.alloc (.cells #[.int .i64 0, .int .i64 0, .int .i64 0] 52)).heap[w.heap.size]? = some (Obj.cells #[.int .i64 0, .int .i64 0, .int .i64 0] 52 (0, 0)) from Array.getElem?_push_size)); have y0 := blk_frozen HO5.out 0; have y1 := blk_frozen HO5.out 1; have y2 := blk_frozen HO5.out 2; have g0 : w5.cell? ⟨w.heap.size, 0, none⟩ = some (.int .i64 0) := (blk_cell HO5.out 0).trans rfl; have g1 : w5.cell? ⟨w.heap.size, 1, none⟩ = some (.int .i64 0) := (blk_cell HO5.out 1).trans rfl; have g2 : w5.cell? ⟨w.heap.size, 2, none⟩ = some (.int .i64 0) := (blk_cell HO5.out 2).trans rfl; clear hb5))
  have hba : Below w.heap.size w w5 := below_step (below_alloc (Below.refl _ _) _) HB5.out
  have hp := (HR.out.of_below hba).res HO5.out (Goes.below hba hb) (Nat.le_refl _) hb (.int .i64 7) (.int .i64 0) (.int .i64 0)
  refine bodyPost_ret (results_cell_row rfl _ _ w.heap.size 52 #[.int .i64 7, .int .i64 0, .int .i64 0] (0, 0) _ rfl hp.1 Try.underlying52 rfl (by kernel_rfl)) rfl ⟨rfl, ⟨_, _, _, _, hp.2.1⟩, hp.2.2⟩
/-- a packet comes -/
def comesF (fl : List Fl) (tn : List Int) (a : S50) : List Fl × List Int × S52 :=
  if a.f0 < 0 ∨ (fl.length : Int) ≤ a.f0 ∨ 1500 < a.f1 then (fl, tn, ⟨2, 0, 0⟩)
  else if (fl.getD a.f0.toNat zFl).ws.length = 40 then (fl, tn, ⟨9, 0, 0⟩)
  else (fl.set a.f0.toNat { fl.getD a.f0.toNat zFl with ws := (fl.getD a.f0.toNat zFl).ws ++ [a.f1] }, if (fl.getD a.f0.toNat zFl).ws.length = 0 then tn ++ [a.f0] else tn, ⟨0, 0, 0⟩)
set_option maxHeartbeats 4000000 in
set_option maxRecDepth 100000 in
theorem comes_bad (fl : List Fl) (tn : List Int) (a : S50) (w : World) (rb base : Nat) (hR : FR w rb base fl tn) (hb : base ≤ w.heap.size) (h : a.f0 < 0 ∨ (fl.length : Int) ≤ a.f0 ∨ 1500 < a.f1) :
    Calls Try.prog 40 #[.pointer (some ⟨rb, 0, none⟩), .agg #[.int .i64 a.f0, .int .i64 a.f1]] w fun e w' => e = .returned (.agg #[.int .i64 2, .int .i64 0, .int .i64 0]) ∧ FR w' rb base fl tn ∧ Goes base w w' := by
  have hu50 := Try.underlying50
  have hu52 := Try.underlying52
  have hu98 := Try.underlying98
  have hu96 := Try.underlying96
  obtain ⟨S, T, fv, tv, hR⟩ := hR
  obtain ⟨f0, f1⟩ := a
  obtain ⟨A, c, rfl⟩ := Kd.S_slice hR.fls
  have r0 : w.cell? ⟨rb, 0, none⟩ = some (.slice A fl.length c) := by rw [blk_cell hR.blk]; rfl
  have hb0 := blk_lt hR.blk
  have HR := Aside0.mk hR
  obtain ⟨n, hn⟩ : ∃ n, fl.length = n := ⟨_, rfl⟩
  have h' : f0 < 0 ∨ (n : Int) ≤ f0 ∨ 1500 < f1 := by rw [← hn]; exact h
  rw [hn] at r0
  obtain ⟨b1, hb1⟩ : ∃ b, decide (f0 < 0) = b := ⟨_, rfl⟩
  obtain ⟨b2, hb2⟩ : ∃ b, decide ((n : Int) ≤ f0) = b := ⟨_, rfl⟩
  obtain ⟨b3, hb3⟩ : ∃ b, decide (1500 < f1) = b := ⟨_, rfl⟩
  have hor : b1 = true ∨ (b1 = false ∧ b2 = true) ∨ (b1 = false ∧ b2 = false ∧ b3 = true) := by
    subst hb1 hb2 hb3
    simp only [decide_eq_true_eq, decide_eq_false_iff_not]
    omega
  clear hR h h'
  rcases hor with rfl | ⟨rfl, rfl⟩ | ⟨rfl, rfl, rfl⟩
  all_goals
    go_enter Try.func40, Try.ntmps40
    go_upto_region 1 with (fail)
    go_quiet (fail)
    go_wp2_with (first
      | ((with_reducible refine gate_callee (f := 41) rfl ?_); refine goesL_ _ rfl rfl Try.func41 (by kernel_rfl) rfl #[.int .i64 2] rfl (by (try simp only [List.map_toArray, List.map_cons, List.map_nil]); first | done | rfl) ?_; refine (fair_no.calls 2 2 0 0 _ rfl).mono ?_; rintro e w5 ⟨rfl, hb5⟩; refine ⟨_, rfl, ?_⟩; have HB5 := Aside0.mk (two_bel w _ _ nq hb5); have HO5 := Aside0.mk (two_res w _ _ nq hb5); have y0 := blk_frozen HO5.out 0; have y1 := blk_frozen HO5.out 1; have y2 := blk_frozen HO5.out 2; have g0 : w5.cell? ⟨w.heap.size + 1, 0, none⟩ = some (.int .i64 0) := (blk_cell HO5.out 0).trans rfl; have g1 : w5.cell? ⟨w.heap.size + 1, 1, none⟩ = some (.int .i64 0) := (blk_cell HO5.out 1).trans rfl; have g2 : w5.cell? ⟨w.heap.size + 1, 2, none⟩ = some (.int .i64 0) := (blk_cell HO5.out 2).trans rfl; clear hb5))
    have hp := (HR.out.of_below HB5.out).res HO5.out (Goes.below HB5.out hb) (Nat.le_succ _) hb (.int .i64 2) (.int .i64 0) (.int .i64 0)
    refine bodyPost_ret (results_cell_row rfl _ _ (w.heap.size + 1) 52 #[.int .i64 2, .int .i64 0, .int .i64 0] (0, 0) _ rfl hp.1 Try.underlying52 rfl (by kernel_rfl)) rfl ⟨rfl, ⟨_, _, _, _, hp.2.1⟩, hp.2.2⟩
set_option maxHeartbeats 4000000 in
set_option maxRecDepth 100000 in
theorem comes_full (fl : List Fl) (tn : List Int) (i : Nat) (z : Int) (w : World) (rb base : Nat) (hR : FR w rb base fl tn) (hb : base ≤ w.heap.size) (hi : i < fl.length) (hz : z ≤ 1500) (hfull : (fl.getD i zFl).ws.length = 40) :
    Calls Try.prog 40 #[.pointer (some ⟨rb, 0, none⟩), .agg #[.int .i64 (i : Int), .int .i64 z]] w fun e w' => e = .returned (.agg #[.int .i64 9, .int .i64 0, .int .i64 0]) ∧ FR w' rb base fl tn ∧ Goes base w w' := by
  have hu50 := Try.underlying50
  have hu52 := Try.underlying52
  have hu98 := Try.underlying98
  have hu96 := Try.underlying96
  obtain ⟨S, T, fv, tv, hR⟩ := hR
  obtain ⟨x, hx⟩ : ∃ x, fl.getD i zFl = x := ⟨_, rfl⟩
  rw [hx] at hfull
  obtain ⟨gb, cap, ov0, ok0, rfl, hrest⟩ := hR.elem i hi x hx
  clear hrest ov0 ok0
  obtain ⟨n, hn⟩ : ∃ n, fl.length = n := ⟨_, rfl⟩
  rw [hn] at hR
  obtain ⟨A, c, oki, e1, e2, hg0, hb0, e3, r0, r1, z0, z1, c0, c1, c2, c3, e4, hlc, e5, e6, e7⟩ := hR.at_ hn i hi x hx
  have HR := Aside0.mk hR
  have k0 : decide ((i : Int) < (n : Int)) = true := decide_eq_true (by omega)
  have k1 : i < n := by omega
  have hb1 : decide ((i : Int) < 0) = false := decide_eq_false (by omega)
  have hb2 : decide ((n : Int) ≤ (i : Int)) = false := decide_eq_false (by omega)
  have hb3 : decide (1500 < z) = false := decide_eq_false (by omega)
  have hb4 : decide (n ≤ i) = false := decide_eq_false (by omega)
  rw [hfull] at c1
  clear hR hx e3 e4 e5 e6 e7 z0 z1 hlc hfull
  go_enter Try.func40, Try.ntmps40
  go_upto_region 1 with (fail)
  go_quiet (fail)
  go_upto_region 3 with (fail)
  go_quiet (fail)
  go_wp2_with (first
    | ((with_reducible refine gate_callee (f := 41) rfl ?_); refine goesL_ _ rfl rfl Try.func41 (by kernel_rfl) rfl #[.int .i64 9] rfl (by (try simp only [List.map_toArray, List.map_cons, List.map_nil]); first | done | rfl) ?_; refine (fair_no.calls 9 9 0 0 _ rfl).mono ?_; rintro e w5 ⟨rfl, hb5⟩; refine ⟨_, rfl, ?_⟩; have HB5 := Aside0.mk (two_bel w _ _ _ hb5); have HO5 := Aside0.mk (two_res w _ _ _ hb5); have y0 := blk_frozen HO5.out 0; have y1 := blk_frozen HO5.out 1; have y2 := blk_frozen HO5.out 2; have g0 : w5.cell? ⟨w.heap.size + 1, 0, none⟩ = some (.int .i64 0) := (blk_cell HO5.out 0).trans rfl; have g1 : w5.cell? ⟨w.heap.size + 1, 1, none⟩ = some (.int .i64 0) := (blk_cell HO5.out 1).trans rfl; have g2 : w5.cell? ⟨w.heap.size + 1, 2, none⟩ = some (.int .i64 0) := (blk_cell HO5.out 2).trans rfl; clear hb5))
  have hp := (HR.out.of_below HB5.out).res HO5.out (Goes.below HB5.out hb) (Nat.le_succ _) hb (.int .i64 9) (.int .i64 0) (.int .i64 0)
  refine bodyPost_ret (results_cell_row rfl _ _ (w.heap.size + 1) 52 #[.int .i64 9, .int .i64 0, .int .i64 0] (0, 0) _ rfl hp.1 Try.underlying52 rfl (by kernel_rfl)) rfl ⟨rfl, ⟨_, _, _, _, hp.2.1⟩, hp.2.2⟩
set_option maxHeartbeats 8000000 in
set_option maxRecDepth 100000 in
theorem comes_good (fl : List Fl) (tn : List Int) (i : Nat) (z : Int) (w : World) (rb base : Nat) (hR : FR w rb base fl tn) (hb : base ≤ w.heap.size) (hi : i < fl.length) (hz : z ≤ 1500) (htn : tn.length ≤ 1000) (hws : (fl.getD i zFl).ws.length < 40) :
    Calls Try.prog 40 #[.pointer (some ⟨rb, 0, none⟩), .agg #[.int .i64 (i : Int), .int .i64 z]] w fun e w' => e = .returned (.agg #[.int .i64 0, .int .i64 0, .int .i64 0]) ∧ FR w' rb base (fl.set i { fl.getD i zFl with ws := (fl.getD i zFl).ws ++ [z] }) (if (fl.getD i zFl).ws.length = 0 then tn ++ [(i : Int)] else tn) ∧ Goes base w w' := by
  have hu50 := Try.underlying50
  have hu52 := Try.underlying52
  have hu98 := Try.underlying98
  have hu96 := Try.underlying96
  obtain ⟨S, T, fv, tv, hR⟩ := hR
  obtain ⟨x, hx⟩ : ∃ x, fl.getD i zFl = x := ⟨_, rfl⟩
  rw [hx] at hws ⊢
  obtain ⟨gb, cap, ov0, ok0, rfl, hrest⟩ := hR.elem i hi x hx
  clear hrest ov0 ok0
  obtain ⟨n, hn⟩ : ∃ n, fl.length = n := ⟨_, rfl⟩
  rw [hn] at hR
  obtain ⟨A, c, oki, e1, e2, hg0, hb0, e3, r0, r1, z0, z1, c0, c1, c2, c3, e4, hlc, e5, e6, e7⟩ := hR.at_ hn i hi x hx
  have HR := Aside0.mk hR
  have HX := Aside0.mk hx
  have HN := Aside0.mk hn
  have HTN := Aside0.mk htn
  have HL := Aside0.mk hws
  have k0 : decide ((i : Int) < (n : Int)) = true := decide_eq_true (by omega)
  have k1 : i < n := by omega
  have hb1 : decide ((i : Int) < 0) = false := decide_eq_false (by omega)
  have hb2 : decide ((n : Int) ≤ (i : Int)) = false := decide_eq_false (by omega)
  have hb3 : decide (1500 < z) = false := decide_eq_false (by omega)
  have hb4 : decide (n ≤ i) = false := decide_eq_false (by omega)
  obtain ⟨m, hm⟩ : ∃ m, x.ws.length = m := ⟨_, rfl⟩
  obtain ⟨tg, htg⟩ : ∃ t, (if m = 0 then tn ++ [(i : Int)] else tn) = t := ⟨_, rfl⟩
  rw [hm] at c1 hws ⊢
  rw [htg]
  have HTG := Aside0.mk htg
  have HM := Aside0.mk hm
  have k2 : ¬ m = 40 := by omega
  have k3 : ((m : Int) == 40) = false := beq_eq_false_iff_ne.mpr (by omega)
  clear hR hx e3 e4 e5 e6 e7 z0 z1 hlc htn htg hm
  go_enter Try.func40, Try.ntmps40
  go_upto_region 1 with (fail)
  go_quiet (fail)
  go_upto_region 3 with (fail)
  go_quiet (fail)
  go_upto_region 4 with (fail)
  go_cut [36] (fun v36 wc => v36 = .int .i64 (m : Int) ∧ Aside0 (wc.heap[w.heap.size]? = some (Obj.cells #[.int .i64 (i : Int), .int .i64 z] 50 (0, 0))) ∧ Aside0 (wc.heap[w.heap.size + 1]? = some (Obj.cells #[.int .i64 0, .int .i64 0, .int .i64 0] 52 (0, 0))) ∧ Aside0 (Below w.heap.size w wc))
  case first =>
    go_wp2
    go_meet
    case rel =>
      refine ⟨rfl, ⟨?_⟩, ⟨?_⟩, ⟨?_⟩⟩
      · try rw [drewN_heap]
        try rw [drewN_heap]
        exact (two_blocks w _ _).1
      · try rw [drewN_heap]
        try rw [drewN_heap]
        exact (two_blocks w _ _).2
      · first | exact pw_below_drewN (below_alloc (below_alloc (Below.refl _ _) _) _) _ | exact pw_below_drewN (pw_below_drewN (below_alloc (below_alloc (Below.refl _ _) _) _) _) _
  case rest =>
    obtain ⟨rfl, HA, HO, HB⟩ := hcut
    obtain ⟨w2, hw2⟩ : ∃ y : World, y = wc := ⟨_, rfl⟩
    subst hw2
    have HR2 := Aside0.mk (HR.out.of_below HB.out)
    have HG2 := Aside0.mk (Goes.below HB.out hb)
    clear r0 r1 c0 c1 c2 c3 hg0 hb0 e1 e2
    by_cases hm0 : m = 0
    · have k4 : ((m : Int) == 0) = true := beq_iff_eq.mpr (by omega)
      have htg : tn ++ [(i : Int)] = tg := by have := HTG.out; rwa [if_pos hm0] at this
      have HT2 := Aside0.mk htg
      obtain ⟨At, ct, rfl, hlt⟩ := Kd.Q_slice HR2.out.trn
      have f0 : w2.cell? ⟨w.heap.size, 0, none⟩ = some (.int .i64 (i : Int)) := by rw [blk_cell HA.out]; rfl
      have r1 : w2.cell? ⟨rb, 1, none⟩ = some (.slice At tn.length ct) := by rw [blk_cell HR2.out.blk]; rfl
      have hb0 := blk_lt HR2.out.blk
      have z1 := blk_frozen HR2.out.blk 1
      have HBW := Aside0.mk (show base ≤ w2.heap.size by have := HG2.out.bel.size; omega)
      have HQ := Aside0.mk HR2.out.trn
      clear htg hlt
      go_upto_region 8 with (fail)
      go_region_law (refine Kd.Q_append_step (Kd.int .i64) (w0 := w2.drew) (W := w2.drew) base rfl (.tmp 46) (.tmp 49) 22 3 (.int .i64 0) 8 rfl Try.underlying22 info3 rfl (by decide) (by decide) (.slice At tn.length ct) tn (i : Int) [.int .i64 (i : Int)] (fun k => T k ∨ w2.heap.size ≤ k) (fun _ => False) ?aV ?aX rfl (fun _ hk => hk.elim) ?aF ?aO ?aB ?aS ?aL ?_; (case aV => rfl); (case aX => rfl); (case aF => exact fun _ hk => .inr hk); (case aO => exact Kd.Q_drew (Kd.Q_mono HQ.out (fun _ h => .inl h))); (case aB => exact Below.refl _ _); (case aS => exact HBW.out); (case aL => have := HTN.out; omega); intro v1 w1 ho hb hg hat; obtain ⟨A9, c9, hv9, _⟩ := Kd.Q_slice ho; subst hv9; have HQ6 := Aside0.mk ho; have HB6 := Aside0.mk hb; have HG6 := Aside0.mk hg; have hbl := (hg.block rb (blk_lt HR2.out.blk) (Kd.Q_ne HQ.out HR2.out.blk (by decide))).trans HR2.out.blk; have g6 : w1.cell? ⟨rb, 1, none⟩ = some (.slice At tn.length ct) := (blk_cell hbl 1).trans rfl; have y6 := blk_frozen hbl 1; clear ho hb hg hat hbl)
      all_goals
        go_upto_region 9 with (fail)
        have hp := HR2.out.drew.tgrow (Kd.Q_drew HQ.out) HG6.out HB6.out HQ6.out
        rw [HT2.out, show tg.length = tn.length + 1 by rw [← HT2.out, List.length_append]; rfl] at hp
        obtain ⟨w4, hw4⟩ : ∃ y : World, y = w1.setCell ⟨rb, 1, none⟩ (.slice A9 (tn.length + 1) c9) := ⟨_, rfl⟩
        rw [← hw4] at hp ⊢
        have HR4 := Aside0.mk hp.1
        have HG4 := Aside0.mk ((HG2.out.trans (Goes.refl base w2).drew).trans hp.2)
        have HO4 := Aside0.mk (hp.2.onl.blk (show w2.drew.heap[w.heap.size + 1]? = _ from HO.out))
        have hA4 : w4.heap[w.heap.size]? = some (Obj.cells #[.int .i64 (i : Int), .int .i64 z] 50 (0, 0)) := by
          rw [hw4]
          refine (Below.heap_setCell w1 ⟨rb, 1, none⟩ _ _ (fun e => by have := blk_lt HR.out.blk; have e1 : w.heap.size = rb := e; omega)).trans ((HG6.out.block _ (blk_lt HA.out) (Kd.Q_ne HQ.out HA.out (by decide))).trans HA.out)
        have f1 : w4.cell? ⟨w.heap.size, 1, none⟩ = some (.int .i64 z) := by rw [blk_cell hA4]; rfl
        clear hm0 k4 hp hA4 hw4 g6 y6 HQ6 HB6 HG6 r1 z1 f0 hb0
        have HBW4 := Aside0.mk (show base ≤ w4.heap.size by have := HG4.out.bel.size; omega)
        obtain ⟨A, c, oki, e1, e2, hg0, hb0, e3, r0, r1, z0, z1, c0, c1, c2, c3, e4, hlc, e5, e6, e7⟩ := HR4.out.at_ HN.out i hi x HX.out
        have hm := HM.out
        have z2 := e4 1
        have E3 := Aside0.mk e3
        have E5 := Aside0.mk e5
        have E6 := Aside0.mk e6
        have E7 := Aside0.mk e7
        rw [hm] at c1 E5 E7
        clear e3 e4 e5 e6 e7 hlc hm
        go_region_law (refine Kd.Q_append_step (Kd.int .i64) (w0 := w4.drew) (W := w4.drew) base rfl (.tmp 57) (.tmp 60) 22 3 (.int .i64 0) 8 rfl Try.underlying22 info3 rfl (by decide) (by decide) (.slice A m c) x.ws z [.int .i64 z] (fun k => oki k ∨ w4.heap.size ≤ k) (fun _ => False) ?aV ?aX rfl (fun _ hk => hk.elim) ?aF ?aO ?aB ?aS ?aL ?_; (case aV => rfl); (case aX => rfl); (case aF => exact fun _ hk => .inr hk); (case aO => exact Kd.Q_drew (Kd.Q_mono E5.out (fun _ h => .inl h))); (case aB => exact Below.refl _ _); (case aS => exact HBW4.out); (case aL => have := HM.out; have := HL.out; omega); intro v3 w3 ho hb hg hat; obtain ⟨A8, c8, hv8, _⟩ := Kd.Q_slice ho; subst hv8; have HQ8 := Aside0.mk ho; have HB8 := Aside0.mk hb; have HG8 := Aside0.mk hg; have g8 : w3.cell? ⟨gb, i * 4 + 1, none⟩ = some (.slice A m c) := hg.cell (w := w4.drew) c1 (fun e => (E6.out gb (E5.out.1 gb e.symm)).2 rfl); have y8 : w3.frozen? ⟨gb, i * 4 + 1, none⟩ = false := (hg.frozen_far (w := w4.drew) _ (World.block_lt_of_cell? w4 _ c1) (fun e => (E6.out gb (E5.out.1 gb e.symm)).2 rfl)).trans z2; clear ho hb hg hat)
        all_goals
          go_upto_region 10 with (fail)
          have hm := HM.out
          have hp := HR4.out.drew.wgrow (ov := .slice A m c) HN.out hi e1 e2 E3.out x { x with ws := x.ws ++ [z] } ⟨rfl, rfl, rfl⟩ (Kd.H_drew E7.out) (Kd.Q_drew E5.out) E6.out HG8.out HB8.out HQ8.out
          rw [show (x.ws ++ [z]).length = x.ws.length + 1 from List.length_append] at hp
          have HP := Aside0.mk hp
          clear hp hm
          obtain ⟨w6, hw6⟩ : ∃ y : World, y = w3.setCell ⟨gb, i * 4 + 1, none⟩ (.slice A8 (x.ws.length + 1) c8) := ⟨_, rfl⟩
          rw [← hw6] at HP ⊢
          have HO6 := Aside0.mk (HP.out.2.onl.blk (show w4.drew.heap[w.heap.size + 1]? = _ from HO4.out))
          have HG6 := Aside0.mk ((HG4.out.trans (Goes.refl base w4).drew).trans HP.out.2)
          have y0 := blk_frozen HO6.out 0
          have y1 := blk_frozen HO6.out 1
          have y2 := blk_frozen HO6.out 2
          have g0 : w6.cell? ⟨w.heap.size + 1, 0, none⟩ = some (.int .i64 0) := by rw [blk_cell HO6.out]; rfl
          have g1 : w6.cell? ⟨w.heap.size + 1, 1, none⟩ = some (.int .i64 0) := by rw [blk_cell HO6.out]; rfl
          have g2 : w6.cell? ⟨w.heap.size + 1, 2, none⟩ = some (.int .i64 0) := by rw [blk_cell HO6.out]; rfl
          clear hw6 g8 y8 HQ8 HB8 HG8
          go_wp2
          have hp := HP.out.1.res HO6.out HG6.out (Nat.le_succ _) hb (.int .i64 0) (.int .i64 0) (.int .i64 0)
          refine bodyPost_ret (results_cell_row rfl _ _ (w.heap.size + 1) 52 #[.int .i64 0, .int .i64 0, .int .i64 0] (0, 0) _ rfl hp.1 Try.underlying52 rfl (by kernel_rfl)) rfl ⟨rfl, ⟨_, _, _, _, hp.2.1⟩, hp.2.2⟩
    · have k4 : ((m : Int) == 0) = false := beq_eq_false_iff_ne.mpr (by omega)
      have htg : tn = tg := by have := HTG.out; rwa [if_neg hm0] at this
      go_upto_region 9 with (fail)
      obtain ⟨w4, hw4⟩ : ∃ y : World, y = w2 := ⟨_, rfl⟩
      subst hw4
      have HR4 := HR2
      rw [htg] at HR4
      have HG4 := HG2
      have HO4 := HO
      have f1 : w4.cell? ⟨w.heap.size, 1, none⟩ = some (.int .i64 z) := by rw [blk_cell HA.out]; rfl
      clear htg
      have HBW4 := Aside0.mk (show base ≤ w4.heap.size by have := HG4.out.bel.size; omega)
      obtain ⟨A, c, oki, e1, e2, hg0, hb0, e3, r0, r1, z0, z1, c0, c1, c2, c3, e4, hlc, e5, e6, e7⟩ := HR4.out.at_ HN.out i hi x HX.out
      have hm := HM.out
      have z2 := e4 1
      have E3 := Aside0.mk e3
      have E5 := Aside0.mk e5
      have E6 := Aside0.mk e6
      have E7 := Aside0.mk e7
      rw [hm] at c1 E5 E7
      clear e3 e4 e5 e6 e7 hlc hm
      go_region_law (refine Kd.Q_append_step (Kd.int .i64) (w0 := w4.drew) (W := w4.drew) base rfl (.tmp 57) (.tmp 60) 22 3 (.int .i64 0) 8 rfl Try.underlying22 info3 rfl (by decide) (by decide) (.slice A m c) x.ws z [.int .i64 z] (fun k => oki k ∨ w4.heap.size ≤ k) (fun _ => False) ?aV ?aX rfl (fun _ hk => hk.elim) ?aF ?aO ?aB ?aS ?aL ?_; (case aV => rfl); (case aX => rfl); (case aF => exact fun _ hk => .inr hk); (case aO => exact Kd.Q_drew (Kd.Q_mono E5.out (fun _ h => .inl h))); (case aB => exact Below.refl _ _); (case aS => exact HBW4.out); (case aL => have := HM.out; have := HL.out; omega); intro v3 w3 ho hb hg hat; obtain ⟨A8, c8, hv8, _⟩ := Kd.Q_slice ho; subst hv8; have HQ8 := Aside0.mk ho; have HB8 := Aside0.mk hb; have HG8 := Aside0.mk hg; have g8 : w3.cell? ⟨gb, i * 4 + 1, none⟩ = some (.slice A m c) := hg.cell (w := w4.drew) c1 (fun e => (E6.out gb (E5.out.1 gb e.symm)).2 rfl); have y8 : w3.frozen? ⟨gb, i * 4 + 1, none⟩ = false := (hg.frozen_far (w := w4.drew) _ (World.block_lt_of_cell? w4 _ c1) (fun e => (E6.out gb (E5.out.1 gb e.symm)).2 rfl)).trans z2; clear ho hb hg hat)
      all_goals
        go_upto_region 10 with (fail)
        have hm := HM.out
        have hp := HR4.out.drew.wgrow (ov := .slice A m c) HN.out hi e1 e2 E3.out x { x with ws := x.ws ++ [z] } ⟨rfl, rfl, rfl⟩ (Kd.H_drew E7.out) (Kd.Q_drew E5.out) E6.out HG8.out HB8.out HQ8.out
        rw [show (x.ws ++ [z]).length = x.ws.length + 1 from List.length_append] at hp
        have HP := Aside0.mk hp
        clear hp hm
        obtain ⟨w6, hw6⟩ : ∃ y : World, y = w3.setCell ⟨gb, i * 4 + 1, none⟩ (.slice A8 (x.ws.length + 1) c8) := ⟨_, rfl⟩
        rw [← hw6] at HP ⊢
        have HO6 := Aside0.mk (HP.out.2.onl.blk (show w4.drew.heap[w.heap.size + 1]? = _ from HO4.out))
        have HG6 := Aside0.mk ((HG4.out.trans (Goes.refl base w4).drew).trans HP.out.2)
        have y0 := blk_frozen HO6.out 0
        have y1 := blk_frozen HO6.out 1
        have y2 := blk_frozen HO6.out 2
        have g0 : w6.cell? ⟨w.heap.size + 1, 0, none⟩ = some (.int .i64 0) := by rw [blk_cell HO6.out]; rfl
        have g1 : w6.cell? ⟨w.heap.size + 1, 1, none⟩ = some (.int .i64 0) := by rw [blk_cell HO6.out]; rfl
        have g2 : w6.cell? ⟨w.heap.size + 1, 2, none⟩ = some (.int .i64 0) := by rw [blk_cell HO6.out]; rfl
        clear hw6 g8 y8 HQ8 HB8 HG8
        go_wp2
        have hp := HP.out.1.res HO6.out HG6.out (Nat.le_succ _) hb (.int .i64 0) (.int .i64 0) (.int .i64 0)
        refine bodyPost_ret (results_cell_row rfl _ _ (w.heap.size + 1) 52 #[.int .i64 0, .int .i64 0, .int .i64 0] (0, 0) _ rfl hp.1 Try.underlying52 rfl (by kernel_rfl)) rfl ⟨rfl, ⟨_, _, _, _, hp.2.1⟩, hp.2.2⟩
set_option maxHeartbeats 8000000 in
set_option maxRecDepth 100000 in
theorem sends_loop (k : Nat) (fl0 : List Fl) (tn0 : List Int) (w : World) (rb base : Nat) (hR : FR w rb base fl0 tn0) (fl' : List Fl) (tn' : List Int) (o : S52) (h : sendsF k fl0 tn0 = some (fl', tn', o)) (hb : base ≤ w.heap.size) (htn : tn0.length ≤ 1000) :
    Calls Try.prog 42 #[.pointer (some ⟨rb, 0, none⟩)] w fun e w' => e = .returned (.agg #[.int .i64 o.f0, .int .i64 o.f1, .int .i64 o.f2]) ∧ FR w' rb base fl' tn' ∧ Goes base w w' := by
  have hu52 := Try.underlying52
  have hu98 := Try.underlying98
  have hu96 := Try.underlying96
  have HF0 := Aside0.mk hR
  have HS0 := Aside0.mk h
  obtain ⟨S, T, fv, tv, hR⟩ := hR
  have hne : 0 < tn0.length := by
    rcases tn0 with _ | ⟨t, tr⟩
    · cases k <;> simp [sendsF] at h
    · simp
  obtain ⟨A, c, rfl, _⟩ := Kd.Q_slice hR.trn
  have r1 : w.cell? ⟨rb, 1, none⟩ = some (.slice A tn0.length c) := by rw [blk_cell hR.blk]; rfl
  have hb0 := blk_lt hR.blk
  have k9 : ((tn0.length : Int) == 0) = false := beq_eq_false_iff_ne.mpr (by omega)
  clear hR h
  go_enter Try.func42, Try.ntmps42
  go_wp2
  clear r1 k9 hne
  go_loopg [] k (fun kq wr => ∃ (fl : List Fl) (tn : List Int), Aside0 (FR wr rb base fl tn) ∧ Aside0 (sendsF kq fl tn = some (fl', tn', o)) ∧ Aside0 (tn.length = tn0.length) ∧ Aside0 (Goes base w wr) ∧ Aside0 (wr.heap[w.heap.size]? = some (Obj.cells #[.int .i64 0, .int .i64 0, .int .i64 0] 52 (0, 0))))
  case atStart => exact ⟨fl0, tn0, ⟨HF0.out.of_below (below_alloc (Below.refl _ _) _)⟩, HS0, ⟨rfl⟩, ⟨Goes.below (below_alloc (Below.refl _ _) _) hb⟩, ⟨Array.getElem?_push_size⟩⟩
  case round =>
    obtain ⟨fl, tn, HF, HS, HT, HG, HO⟩ := hrel
    have HTN := Aside0.mk htn
    clear htn
    obtain ⟨wo, hwo⟩ : ∃ wo : World, wo = wr := ⟨_, rfl⟩
    subst hwo
    clear HF0 HS0 hb0
    have h := HS.out
    clear HS
    rcases gk with _ | k2
    · simp [sendsF] at h
    rcases tn with _ | ⟨t, tr⟩
    · simp [sendsF] at h
    rw [sendsF] at h
    by_cases c0 : 0 ≤ t ∧ t < fl.length
    · simp only [if_pos c0] at h
      obtain ⟨i, rfl⟩ : ∃ i : Nat, t = (i : Int) := ⟨t.toNat, by omega⟩
      have hi : i < fl.length := by omega
      rw [Int.toNat_natCast] at h
      obtain ⟨x, hx⟩ : ∃ x, fl.getD i zFl = x := ⟨_, rfl⟩
      rw [hx] at h
      obtain ⟨x1, hx1⟩ : ∃ y, fedF x = y := ⟨_, rfl⟩
      rw [hx1] at h
      rcases hws : x1.ws with _ | ⟨s, r⟩
      · rw [hws] at h
        exact absurd h (by simp)
      rw [hws] at h
      have H := Aside0.mk h
      have HX := Aside0.mk hx
      have HX1 := Aside0.mk hx1
      have HWS := Aside0.mk hws
      have hwx : x.ws = s :: r := by rw [← fedF_ws x, hx1]; exact hws
      have HWX := Aside0.mk hwx
      obtain ⟨S, T, fv, tv, hR⟩ := HF.out
      obtain ⟨gb, cap, ov0, ok0, rfl, hrest⟩ := hR.elem i hi x hx
      clear hrest ov0 ok0 h hx hx1 hws hwx
      obtain ⟨n, hn⟩ : ∃ n, fl.length = n := ⟨_, rfl⟩
      have HN := Aside0.mk hn
      rw [hn] at hR
      have HR := Aside0.mk hR
      have k0 : decide ((i : Int) < (n : Int)) = true := decide_eq_true (by omega)
      have k1 : i < n := by omega
      obtain ⟨A, c, oki, e1, e2, hg0, hb0, e3, r0, r1, z0, z1, c0', c1, c2, c3, e4, hlc, e5, e6, e7⟩ := hR.at_ hn i hi x HX.out
      obtain ⟨At, ct, rfl, hlt⟩ := Kd.Q_slice hR.trn
      obtain ⟨L, hL⟩ : ∃ L, (((i : Nat) : Int) :: tr).length = L := ⟨_, rfl⟩
      have hq := (Kd.Q_reads' hR.trn).2.2
      have hL0 : 0 < L := by rw [← hL]; simp
      obtain ⟨adt, rfl, ht⟩ := Kd.at_int hq 0 (by omega) (by simp only [List.length_cons]; omega)
      have ht0 : wo.cell? (adt.add 0) = some (.int .i64 (i : Int)) := ht
      have ht1 : wo.cell? adt = some (.int .i64 (i : Int)) := by rwa [show adt.add 0 = adt from rfl] at ht0
      rw [hL] at r1
      have z2 := e4 2
      have z3 := e4 3
      have E3 := Aside0.mk e3
      have E5 := Aside0.mk e5
      have E7 := Aside0.mk e7
      clear hR hlt hq e4 e5 e6 e7 hlc e3 ht
      rcases hfd : x.fd with _ | _
      · rw [hfd] at c3
        have hx1 : x1 = { { x with fd := true } with de := wrap64 (x.de + x.qu) } := by rw [← HX1.out]; unfold fedF; rw [hfd]; rfl
        have HX2 := Aside0.mk hx1
        clear hx1 hfd
        go_upto_region 6 with (fail)
        go_cut [] (fun wd => Aside0 (Ring wd rb base S T (.slice (some ⟨gb, 0, none⟩) n cap) (.slice (some adt) (((i : Nat) : Int) :: tr).length ct) (fl.set i { x with fd := true }) ((i : Int) :: tr)) ∧ Aside0 (Goes base wo wd))
        case first =>
          go_wp2
          go_meet
          case rel => exact ⟨⟨(HR.out.put_fd HN.out hi e1 e2 E3.out x E5.out E7.out true).1⟩, ⟨(HR.out.put_fd HN.out hi e1 e2 E3.out x E5.out E7.out true).2⟩⟩
        case rest =>
          obtain ⟨HR2, HG2⟩ := hcut
          obtain ⟨w2, hw2⟩ : ∃ y : World, y = wc := ⟨_, rfl⟩
          subst hw2
          have hn2 : (fl.set i { x with fd := true }).length = n := by rw [List.length_set]; exact HN.out
          have HN2 := Aside0.mk hn2
          clear r0 r1 z0 z1 c0' c1 c2 c3 e1 e2 hg0 hb0 z2 z3 E3 E5 E7 ht0 ht1
          obtain ⟨A, c, oki, e1, e2, hg0, hb0, e3, r0, r1, z0, z1, c0', c1, c2, c3, e4, hlc, e5, e6, e7⟩ := HR2.out.at_ hn2 i (by rw [List.length_set]; exact hi) { x with fd := true } (getD_set fl i _ zFl hi)
          have z2 := e4 2
          have z3 := e4 3
          have E3 := Aside0.mk e3
          have E5 := Aside0.mk e5
          have E7 := Aside0.mk e7
          clear e3 e4 e5 e6 e7 hlc hn2
          go_upto_region 7 with (fail)
          go_cut [] (fun wd => Aside0 (Ring wd rb base S T (.slice (some ⟨gb, 0, none⟩) n cap) (.slice (some adt) L ct) (fl.set i x1) ((i : Int) :: tr)) ∧ Aside0 (Goes base wo wd))
          case first =>
            go_region_law (fail)
            all_goals
              go_wp2
              go_meet
              case rel =>
                simp only [i64_w]
                have hp := HR2.out.put_de HN2.out (by rw [List.length_set]; exact hi) e1 e2 E3.out { x with fd := true } E5.out E7.out (wrap64 (x.de + x.qu))
                rw [List.set_set, ← HX2.out] at hp
                rw [← hL]
                exact ⟨⟨hp.1.drew⟩, ⟨HG2.out.trans hp.2.drew⟩⟩
          case rest =>
            obtain ⟨HR3, HG3⟩ := hcut
            obtain ⟨w3, hw3⟩ : ∃ y : World, y = wc := ⟨_, rfl⟩
            subst hw3
            have HGG := Aside0.mk (HG.out.trans HG3.out)
            have HO3 := Aside0.mk (HG3.out.onl.blk HO.out)
            have ht0 := True.intro
            have ht1 := True.intro
            clear r0 r1 z0 z1 c0' c1 c2 c3 e1 e2 hg0 hb0 z2 z3 E3 E5 E7 ht0 ht1
            have hn3 : (fl.set i x1).length = n := by rw [List.length_set]; exact HN.out
            have HN3 := Aside0.mk hn3
            obtain ⟨A, c, oki, e1, e2, hg0, hb0, e3, r0, r1, z0, z1, c0', c1, c2, c3, e4, hlc, e5, e6, e7⟩ := HR3.out.at_ hn3 i (by rw [List.length_set]; exact hi) x1 (getD_set fl i _ zFl hi)
            have z3 := e4 3
            have hpos : 0 < x1.ws.length := by rw [HWS.out]; simp
            obtain ⟨ad, rfl, hs⟩ := Kd.at_int (Kd.Q_reads' e5).2.2 0 (by omega) (by omega)
            rw [show rd x1.ws 0 = s by rw [HWS.out]; rfl] at hs
            have hs1 : w3.cell? (ad.add 0) = some (.int .i64 s) := hs
            have hs2 : w3.cell? ad = some (.int .i64 s) := by rwa [show ad.add 0 = ad from rfl] at hs1
            have E3 := Aside0.mk e3
            have E5 := Aside0.mk e5
            have E7 := Aside0.mk e7
            clear e3 e4 e5 e6 e7 hlc hn3 hs
            go_upto_region 8 with (fail)
            go_quiet (fail)
            have h := H.out
            by_cases c4 : s ≤ x1.de
            · simp only [if_pos c4] at h
              have H2 := Aside0.mk h
              clear h
              have c4b : decide (s ≤ x1.de) = true := decide_eq_true c4
              go_wp2_with (first
                | ((with_reducible refine gate_callee (f := 51) rfl ?_); refine goesL_ _ rfl rfl Try.func51 (by kernel_rfl) rfl #[.pointer (some ⟨rb, 0, none⟩), .int .i64 (i : Int)] rfl (by (try simp only [List.map_toArray, List.map_cons, List.map_nil]); first | done | rfl) ?_; refine (sent_calls (fl.set i x1) ((i : Int) :: tr) i _ rb base (by have := HN3.out; omega) ⟨S, T, _, _, HR3.out.of_below (pw_below_drewN (Below.refl _ _) _)⟩ fl' tn' o H2.out (by have := HGG.out.bel.size; show base ≤ w3.heap.size; omega)).mono ?_; rintro e w5 ⟨rfl, hf5, hg5⟩; refine ⟨_, rfl, ?_⟩; have HF5 := Aside0.mk hf5; have HG5 := Aside0.mk hg5; have HO5 := Aside0.mk (hg5.onl.blk (show (w3.drewN nq).heap[w.heap.size]? = _ from HO3.out)); have y0 := blk_frozen HO5.out 0; have y1 := blk_frozen HO5.out 1; have y2 := blk_frozen HO5.out 2; have g0 : w5.cell? ⟨w.heap.size, 0, none⟩ = some (.int .i64 0) := (blk_cell HO5.out 0).trans rfl; have g1 : w5.cell? ⟨w.heap.size, 1, none⟩ = some (.int .i64 0) := (blk_cell HO5.out 1).trans rfl; have g2 : w5.cell? ⟨w.heap.size, 2, none⟩ = some (.int .i64 0) := (blk_cell HO5.out 2).trans rfl; clear hf5 hg5))
              obtain ⟨S5, T5, fv5, tv5, hR5⟩ := HF5.out
              have hp := hR5.res HO5.out (HGG.out.trans ((Goes.below (pw_below_drewN (Below.refl _ _) nq) (by have := HGG.out.bel.size; omega)).trans HG5.out)) (Nat.le_refl _) hb (.int .i64 o.f0) (.int .i64 o.f1) (.int .i64 o.f2)
              refine bodyPost_ret (results_cell_row rfl _ _ w.heap.size 52 #[.int .i64 o.f0, .int .i64 o.f1, .int .i64 o.f2] (0, 0) _ rfl hp.1 Try.underlying52 rfl (by kernel_rfl)) rfl ⟨rfl, ⟨_, _, _, _, hp.2.1⟩, hp.2.2⟩
            · simp only [if_neg c4] at h
              have H2 := Aside0.mk h
              clear h
              have c4b : decide (s ≤ x1.de) = false := decide_eq_false c4
              have HRq := Aside0.mk (HR3.out.of_below (pw_below_drewN (Below.refl _ _) nq))
              have HGq := Aside0.mk (HGG.out.trans (Goes.below (pw_below_drewN (Below.refl _ _) nq) (by have := HGG.out.bel.size; omega)))
              have HOq := Aside0.mk (show (w3.drewN nq).heap[w.heap.size]? = _ from HO3.out)
              go_upto_region 10 with (fail)
              go_cut [] (fun wd => Aside0 (Ring wd rb base S T (.slice (some ⟨gb, 0, none⟩) n cap) (.slice (some adt) L ct) (fl.set i { x1 with fd := false }) ((i : Int) :: tr)) ∧ Aside0 (Goes base w wd) ∧ Aside0 (wd.heap[w.heap.size]? = some (Obj.cells #[.int .i64 0, .int .i64 0, .int .i64 0] 52 (0, 0))))
              case first =>
                go_wp2
                go_meet
                case rel =>
                  obtain ⟨A6, c6, oki6, a1, a2, a3, a4, a5, _, _, _, _, _, _, _, _, _, _, a6, _, a7⟩ := HRq.out.at_ HN3.out i (by rw [List.length_set]; exact hi) x1 (getD_set fl i x1 zFl hi)
                  obtain ⟨p3, p4⟩ := HRq.out.put_fd HN3.out (by rw [List.length_set]; exact hi) a1 a2 a5 x1 a6 a7 false
                  rw [List.set_set] at p3
                  exact ⟨⟨p3⟩, ⟨HGq.out.trans p4⟩, ⟨p4.onl.blk HOq.out⟩⟩
              case rest =>
                obtain ⟨HR4, HG4, HO4⟩ := hcut
                obtain ⟨w4, hw4⟩ : ∃ y : World, y = wc := ⟨_, rfl⟩
                subst hw4
                clear r0 r1 z0 z1 c0' c1 c2 c3 e1 e2 hg0 hb0 z3 E3 E5 E7 hs1 hs2 c4b HRq HGq HOq HR3 HGG HO3
                have r1 : w4.cell? ⟨rb, 1, none⟩ = some (.slice (some adt) L ct) := by rw [blk_cell HR4.out.blk]; rfl
                have hb0 := blk_lt HR4.out.blk
                have z1 := blk_frozen HR4.out.blk 1
                have HBW := Aside0.mk (show base ≤ w4.heap.size by have := HG4.out.bel.size; omega)
                have hTL : tr.length ≤ 1000 := by have h1 := HT.out; have h2 := HTN.out; simp at h1; omega
                have HTL := Aside0.mk hTL
                have hq1 := Kd.Q_drop (k := 1) HR4.out.trn (by simp)
                have k3 : (1 : Int) ≤ (L : Int) := by omega
                clear hTL
                by_cases hc1 : ct = 1
                · have hq2 : (Kd.int .i64).Q 3 w4 base T (.slice (some adt) (L - 1) 0) tr := by rw [if_pos hc1, hc1] at hq1; exact hq1
                  have HQ1 := Aside0.mk hq2
                  clear hq1 hq2
                  go_wp2_with (first
                    | ((with_reducible refine gate_builtin (b := .append) (xs := #[.tmp 65, .tmp 67]) rfl ?_); at_builtin; refine Kd.Q_append (Kd.int .i64) (w0 := w4) (W := w4) base rfl (.tmp 65) (.tmp 67) 22 3 (.int .i64 0) 8 rfl Try.underlying22 info3 rfl (by decide) (by decide) _ tr (i : Int) [.int .i64 (i : Int)] (fun k => T k ∨ w4.heap.size ≤ k) (fun _ => False) rfl rfl rfl (fun _ hk => hk.elim) (fun _ hk => .inr hk) ?aO ?aB ?aS ?aL ?_; (case aO => exact Kd.Q_mono HQ1.out (fun _ h => .inl h)); (case aB => exact Below.refl _ _); (case aS => exact HBW.out); (case aL => have := HTL.out; omega); intro v1 w6 ho hb6 hg6 hat6; obtain ⟨A9, c9, hv9, _⟩ := Kd.Q_slice ho; subst hv9; have HQ6 := Aside0.mk ho; have HB6 := Aside0.mk hb6; have HG6 := Aside0.mk hg6; have hbl := (hg6.block rb (blk_lt HR4.out.blk) (Kd.Q_ne HQ1.out HR4.out.blk (by decide))).trans HR4.out.blk; have g6 : w6.cell? ⟨rb, 1, none⟩ = some (.slice (some adt) L ct) := (blk_cell hbl 1).trans rfl; have y6 := blk_frozen hbl 1; have HBL := Aside0.mk hbl; clear ho hb6 hg6 hat6 hbl))
                  go_roundg k2
                  case measure => omega
                  case rel =>
                    have hp := HR4.out.tgrow (Kd.Q_mono HQ1.out (fun _ h => h)) HG6.out HB6.out HQ6.out
                    rw [show (tr ++ [(i : Int)]).length = tr.length + 1 from List.length_append] at hp
                    have ex : ({ x1 with fd := false } : Fl) = { qu := x1.qu, ws := s :: r, de := x1.de, fd := false } := by rw [← HWS.out]
                    refine ⟨_, _, ⟨⟨_, _, _, _, hp.1⟩⟩, ⟨?_⟩, ⟨?_⟩, ⟨HG4.out.trans hp.2⟩, ⟨hp.2.onl.blk HO4.out⟩⟩
                    · rw [ex]
                      exact H2.out
                    · have := HT.out
                      rw [← this]
                      simp
                · have hq2 : (Kd.int .i64).Q 3 w4 base T (.slice (some ⟨adt.block, adt.off + 1, none⟩) (L - 1) (ct - 1)) tr := by rw [if_neg hc1] at hq1; exact hq1
                  have HQ1 := Aside0.mk hq2
                  clear hq1 hq2
                  go_wp2_with (first
                    | ((with_reducible refine gate_builtin (b := .append) (xs := #[.tmp 65, .tmp 67]) rfl ?_); at_builtin; refine Kd.Q_append (Kd.int .i64) (w0 := w4) (W := w4) base rfl (.tmp 65) (.tmp 67) 22 3 (.int .i64 0) 8 rfl Try.underlying22 info3 rfl (by decide) (by decide) _ tr (i : Int) [.int .i64 (i : Int)] (fun k => T k ∨ w4.heap.size ≤ k) (fun _ => False) rfl rfl rfl (fun _ hk => hk.elim) (fun _ hk => .inr hk) ?aO ?aB ?aS ?aL ?_; (case aO => exact Kd.Q_mono HQ1.out (fun _ h => .inl h)); (case aB => exact Below.refl _ _); (case aS => exact HBW.out); (case aL => have := HTL.out; omega); intro v1 w6 ho hb6 hg6 hat6; obtain ⟨A9, c9, hv9, _⟩ := Kd.Q_slice ho; subst hv9; have HQ6 := Aside0.mk ho; have HB6 := Aside0.mk hb6; have HG6 := Aside0.mk hg6; have hbl := (hg6.block rb (blk_lt HR4.out.blk) (Kd.Q_ne HQ1.out HR4.out.blk (by decide))).trans HR4.out.blk; have g6 : w6.cell? ⟨rb, 1, none⟩ = some (.slice (some adt) L ct) := (blk_cell hbl 1).trans rfl; have y6 := blk_frozen hbl 1; have HBL := Aside0.mk hbl; clear ho hb6 hg6 hat6 hbl))
                  go_roundg k2
                  case measure => omega
                  case rel =>
                    have hp := HR4.out.tgrow (Kd.Q_mono HQ1.out (fun _ h => h)) HG6.out HB6.out HQ6.out
                    rw [show (tr ++ [(i : Int)]).length = tr.length + 1 from List.length_append] at hp
                    have ex : ({ x1 with fd := false } : Fl) = { qu := x1.qu, ws := s :: r, de := x1.de, fd := false } := by rw [← HWS.out]
                    refine ⟨_, _, ⟨⟨_, _, _, _, hp.1⟩⟩, ⟨?_⟩, ⟨?_⟩, ⟨HG4.out.trans hp.2⟩, ⟨hp.2.onl.blk HO4.out⟩⟩
                    · rw [ex]
                      exact H2.out
                    · have := HT.out
                      rw [← this]
                      simp
      · rw [hfd] at c3
        go_upto_if 28 with (fail)
        have hx1 : x1 = x := by rw [← HX1.out]; unfold fedF; rw [hfd]; rfl
        have hset : fl.set i x1 = fl := by rw [hx1]; exact set_getD fl i x zFl hi HX.out
        have HR3 := HR
        rw [← hset, hL] at HR3
        have HGG := HG
        have HO3 := HO
        obtain ⟨w3, hw3⟩ : ∃ y : World, y = wo := ⟨_, rfl⟩
        subst hw3
        clear hset hx1 hfd
        clear r0 r1 z0 z1 c0' c1 c2 c3 e1 e2 hg0 hb0 z2 z3 E3 E5 E7 ht0 ht1
        have hn3 : (fl.set i x1).length = n := by rw [List.length_set]; exact HN.out
        have HN3 := Aside0.mk hn3
        obtain ⟨A, c, oki, e1, e2, hg0, hb0, e3, r0, r1, z0, z1, c0', c1, c2, c3, e4, hlc, e5, e6, e7⟩ := HR3.out.at_ hn3 i (by rw [List.length_set]; exact hi) x1 (getD_set fl i _ zFl hi)
        have z3 := e4 3
        have hpos : 0 < x1.ws.length := by rw [HWS.out]; simp
        obtain ⟨ad, rfl, hs⟩ := Kd.at_int (Kd.Q_reads' e5).2.2 0 (by omega) (by omega)
        rw [show rd x1.ws 0 = s by rw [HWS.out]; rfl] at hs
        have hs1 : w3.cell? (ad.add 0) = some (.int .i64 s) := hs
        have hs2 : w3.cell? ad = some (.int .i64 s) := by rwa [show ad.add 0 = ad from rfl] at hs1
        have E3 := Aside0.mk e3
        have E5 := Aside0.mk e5
        have E7 := Aside0.mk e7
        clear e3 e4 e5 e6 e7 hlc hn3 hs
        go_upto_region 8 with (fail)
        go_quiet (fail)
        have h := H.out
        by_cases c4 : s ≤ x1.de
        · simp only [if_pos c4] at h
          have H2 := Aside0.mk h
          clear h
          have c4b : decide (s ≤ x1.de) = true := decide_eq_true c4
          go_wp2_with (first
            | ((with_reducible refine gate_callee (f := 51) rfl ?_); refine goesL_ _ rfl rfl Try.func51 (by kernel_rfl) rfl #[.pointer (some ⟨rb, 0, none⟩), .int .i64 (i : Int)] rfl (by (try simp only [List.map_toArray, List.map_cons, List.map_nil]); first | done | rfl) ?_; refine (sent_calls (fl.set i x1) ((i : Int) :: tr) i _ rb base (by have := HN3.out; omega) ⟨S, T, _, _, HR3.out.of_below (pw_below_drewN (Below.refl _ _) _)⟩ fl' tn' o H2.out (by have := HGG.out.bel.size; show base ≤ w3.heap.size; omega)).mono ?_; rintro e w5 ⟨rfl, hf5, hg5⟩; refine ⟨_, rfl, ?_⟩; have HF5 := Aside0.mk hf5; have HG5 := Aside0.mk hg5; have HO5 := Aside0.mk (hg5.onl.blk (show (w3.drewN nq).heap[w.heap.size]? = _ from HO3.out)); have y0 := blk_frozen HO5.out 0; have y1 := blk_frozen HO5.out 1; have y2 := blk_frozen HO5.out 2; have g0 : w5.cell? ⟨w.heap.size, 0, none⟩ = some (.int .i64 0) := (blk_cell HO5.out 0).trans rfl; have g1 : w5.cell? ⟨w.heap.size, 1, none⟩ = some (.int .i64 0) := (blk_cell HO5.out 1).trans rfl; have g2 : w5.cell? ⟨w.heap.size, 2, none⟩ = some (.int .i64 0) := (blk_cell HO5.out 2).trans rfl; clear hf5 hg5))
          obtain ⟨S5, T5, fv5, tv5, hR5⟩ := HF5.out
          have hp := hR5.res HO5.out (HGG.out.trans ((Goes.below (pw_below_drewN (Below.refl _ _) nq) (by have := HGG.out.bel.size; omega)).trans HG5.out)) (Nat.le_refl _) hb (.int .i64 o.f0) (.int .i64 o.f1) (.int .i64 o.f2)
          refine bodyPost_ret (results_cell_row rfl _ _ w.heap.size 52 #[.int .i64 o.f0, .int .i64 o.f1, .int .i64 o.f2] (0, 0) _ rfl hp.1 Try.underlying52 rfl (by kernel_rfl)) rfl ⟨rfl, ⟨_, _, _, _, hp.2.1⟩, hp.2.2⟩
        · simp only [if_neg c4] at h
          have H2 := Aside0.mk h
          clear h
          have c4b : decide (s ≤ x1.de) = false := decide_eq_false c4
          have HRq := Aside0.mk (HR3.out.of_below (pw_below_drewN (Below.refl _ _) nq))
          have HGq := Aside0.mk (HGG.out.trans (Goes.below (pw_below_drewN (Below.refl _ _) nq) (by have := HGG.out.bel.size; omega)))
          have HOq := Aside0.mk (show (w3.drewN nq).heap[w.heap.size]? = _ from HO3.out)
          go_upto_region 10 with (fail)
          go_cut [] (fun wd => Aside0 (Ring wd rb base S T (.slice (some ⟨gb, 0, none⟩) n cap) (.slice (some adt) L ct) (fl.set i { x1 with fd := false }) ((i : Int) :: tr)) ∧ Aside0 (Goes base w wd) ∧ Aside0 (wd.heap[w.heap.size]? = some (Obj.cells #[.int .i64 0, .int .i64 0, .int .i64 0] 52 (0, 0))))
          case first =>
            go_wp2
            go_meet
            case rel =>
              obtain ⟨A6, c6, oki6, a1, a2, a3, a4, a5, _, _, _, _, _, _, _, _, _, _, a6, _, a7⟩ := HRq.out.at_ HN3.out i (by rw [List.length_set]; exact hi) x1 (getD_set fl i x1 zFl hi)
              obtain ⟨p3, p4⟩ := HRq.out.put_fd HN3.out (by rw [List.length_set]; exact hi) a1 a2 a5 x1 a6 a7 false
              rw [List.set_set] at p3
              exact ⟨⟨p3⟩, ⟨HGq.out.trans p4⟩, ⟨p4.onl.blk HOq.out⟩⟩
          case rest =>
            obtain ⟨HR4, HG4, HO4⟩ := hcut
            obtain ⟨w4, hw4⟩ : ∃ y : World, y = wc := ⟨_, rfl⟩
            subst hw4
            clear r0 r1 z0 z1 c0' c1 c2 c3 e1 e2 hg0 hb0 z3 E3 E5 E7 hs1 hs2 c4b HRq HGq HOq HR3 HGG HO3
            have r1 : w4.cell? ⟨rb, 1, none⟩ = some (.slice (some adt) L ct) := by rw [blk_cell HR4.out.blk]; rfl
            have hb0 := blk_lt HR4.out.blk
            have z1 := blk_frozen HR4.out.blk 1
            have HBW := Aside0.mk (show base ≤ w4.heap.size by have := HG4.out.bel.size; omega)
            have hTL : tr.length ≤ 1000 := by have h1 := HT.out; have h2 := HTN.out; simp at h1; omega
            have HTL := Aside0.mk hTL
            have hq1 := Kd.Q_drop (k := 1) HR4.out.trn (by simp)
            have k3 : (1 : Int) ≤ (L : Int) := by omega
            clear hTL
            by_cases hc1 : ct = 1
            · have hq2 : (Kd.int .i64).Q 3 w4 base T (.slice (some adt) (L - 1) 0) tr := by rw [if_pos hc1, hc1] at hq1; exact hq1
              have HQ1 := Aside0.mk hq2
              clear hq1 hq2
              go_wp2_with (first
                | ((with_reducible refine gate_builtin (b := .append) (xs := #[.tmp 65, .tmp 67]) rfl ?_); at_builtin; refine Kd.Q_append (Kd.int .i64) (w0 := w4) (W := w4) base rfl (.tmp 65) (.tmp 67) 22 3 (.int .i64 0) 8 rfl Try.underlying22 info3 rfl (by decide) (by decide) _ tr (i : Int) [.int .i64 (i : Int)] (fun k => T k ∨ w4.heap.size ≤ k) (fun _ => False) rfl rfl rfl (fun _ hk => hk.elim) (fun _ hk => .inr hk) ?aO ?aB ?aS ?aL ?_; (case aO => exact Kd.Q_mono HQ1.out (fun _ h => .inl h)); (case aB => exact Below.refl _ _); (case aS => exact HBW.out); (case aL => have := HTL.out; omega); intro v1 w6 ho hb6 hg6 hat6; obtain ⟨A9, c9, hv9, _⟩ := Kd.Q_slice ho; subst hv9; have HQ6 := Aside0.mk ho; have HB6 := Aside0.mk hb6; have HG6 := Aside0.mk hg6; have hbl := (hg6.block rb (blk_lt HR4.out.blk) (Kd.Q_ne HQ1.out HR4.out.blk (by decide))).trans HR4.out.blk; have g6 : w6.cell? ⟨rb, 1, none⟩ = some (.slice (some adt) L ct) := (blk_cell hbl 1).trans rfl; have y6 := blk_frozen hbl 1; have HBL := Aside0.mk hbl; clear ho hb6 hg6 hat6 hbl))
              go_roundg k2
              case measure => omega
              case rel =>
                have hp := HR4.out.tgrow (Kd.Q_mono HQ1.out (fun _ h => h)) HG6.out HB6.out HQ6.out
                rw [show (tr ++ [(i : Int)]).length = tr.length + 1 from List.length_append] at hp
                have ex : ({ x1 with fd := false } : Fl) = { qu := x1.qu, ws := s :: r, de := x1.de, fd := false } := by rw [← HWS.out]
                refine ⟨_, _, ⟨⟨_, _, _, _, hp.1⟩⟩, ⟨?_⟩, ⟨?_⟩, ⟨HG4.out.trans hp.2⟩, ⟨hp.2.onl.blk HO4.out⟩⟩
                · rw [ex]
                  exact H2.out
                · have := HT.out
                  rw [← this]
                  simp
            · have hq2 : (Kd.int .i64).Q 3 w4 base T (.slice (some ⟨adt.block, adt.off + 1, none⟩) (L - 1) (ct - 1)) tr := by rw [if_neg hc1] at hq1; exact hq1
              have HQ1 := Aside0.mk hq2
              clear hq1 hq2
              go_wp2_with (first
                | ((with_reducible refine gate_builtin (b := .append) (xs := #[.tmp 65, .tmp 67]) rfl ?_); at_builtin; refine Kd.Q_append (Kd.int .i64) (w0 := w4) (W := w4) base rfl (.tmp 65) (.tmp 67) 22 3 (.int .i64 0) 8 rfl Try.underlying22 info3 rfl (by decide) (by decide) _ tr (i : Int) [.int .i64 (i : Int)] (fun k => T k ∨ w4.heap.size ≤ k) (fun _ => False) rfl rfl rfl (fun _ hk => hk.elim) (fun _ hk => .inr hk) ?aO ?aB ?aS ?aL ?_; (case aO => exact Kd.Q_mono HQ1.out (fun _ h => .inl h)); (case aB => exact Below.refl _ _); (case aS => exact HBW.out); (case aL => have := HTL.out; omega); intro v1 w6 ho hb6 hg6 hat6; obtain ⟨A9, c9, hv9, _⟩ := Kd.Q_slice ho; subst hv9; have HQ6 := Aside0.mk ho; have HB6 := Aside0.mk hb6; have HG6 := Aside0.mk hg6; have hbl := (hg6.block rb (blk_lt HR4.out.blk) (Kd.Q_ne HQ1.out HR4.out.blk (by decide))).trans HR4.out.blk; have g6 : w6.cell? ⟨rb, 1, none⟩ = some (.slice (some adt) L ct) := (blk_cell hbl 1).trans rfl; have y6 := blk_frozen hbl 1; have HBL := Aside0.mk hbl; clear ho hb6 hg6 hat6 hbl))
              go_roundg k2
              case measure => omega
              case rel =>
                have hp := HR4.out.tgrow (Kd.Q_mono HQ1.out (fun _ h => h)) HG6.out HB6.out HQ6.out
                rw [show (tr ++ [(i : Int)]).length = tr.length + 1 from List.length_append] at hp
                have ex : ({ x1 with fd := false } : Fl) = { qu := x1.qu, ws := s :: r, de := x1.de, fd := false } := by rw [← HWS.out]
                refine ⟨_, _, ⟨⟨_, _, _, _, hp.1⟩⟩, ⟨?_⟩, ⟨?_⟩, ⟨HG4.out.trans hp.2⟩, ⟨hp.2.onl.blk HO4.out⟩⟩
                · rw [ex]
                  exact H2.out
                · have := HT.out
                  rw [← this]
                  simp
    · rw [if_neg c0] at h
      exact absurd h (by simp)
set_option maxHeartbeats 4000000 in
set_option maxRecDepth 100000 in
theorem index_calls (A : Option Addr) (c : Nat) (l : List Int) (w : World) (hC : Kd.C (Kd.int .i64) w A l.length l) (hg : ∀ n, n ∈ l → 1 ≤ n ∧ n ≤ 1500) (hl : l.length ≤ 100000) :
    Calls Try.prog 50 #[.slice A l.length c, .func (.func 39) #[] #[]] w fun e w' => e = .returned (.int .i64 (-1)) ∧ Below w.heap.size w w' := by
  have HC := Aside0.mk hC
  have HG := Aside0.mk hg
  clear hC hg
  go_enter Try.func50, Try.ntmps50
  go_wp2
  go_loopw [8] (fun v8 wr => ∃ a : Nat, a ≤ l.length ∧ v8 = .int .i64 (a : Int) ∧ Aside0 (Below w.heap.size w wr)) (fun v8 _ => l.length - (intOf v8).toNat)
  case atStart => exact ⟨0, Nat.zero_le _, rfl, ⟨Below.refl _ _⟩⟩
  case round =>
    obtain ⟨a, ha, rfl, HB⟩ := hrel
    obtain ⟨wo, hwo⟩ : ∃ wo : World, wo = wr := ⟨_, rfl⟩
    subst hwo
    by_cases c0 : a < l.length
    · have c0b : decide (a < l.length) = true := decide_eq_true c0
      have c0i : decide ((a : Int) < (l.length : Int)) = true := decide_eq_true (by omega)
      obtain ⟨ad, rfl, hx⟩ := Kd.at_int (Kd.C_below HC.out HB.out) (a : Int) (by omega) (by omega)
      rw [Int.toNat_natCast] at hx
      obtain ⟨z, hz⟩ : ∃ z, rd l (a : Int) = z := ⟨_, rfl⟩
      have hzg : 1 ≤ z ∧ z ≤ 1500 := by
        refine HG.out z ?_
        rw [← hz, rd, Int.toNat_natCast, List.getD_eq_getElem?_getD, List.getElem?_eq_getElem c0]
        exact List.getElem_mem _
      have hf : fair_Play_1.f z = some false := by unfold fair_Play_1.f; rw [if_neg (by omega), decide_eq_false (by omega)]
      have HF := Aside0.mk hf
      rw [hz] at hx
      clear hz hf hzg
      go_wp2_with (fail)
      refine (fair_Play_1.calls z false _ HF.out).mono ?_
      rintro e w5 ⟨rfl, hb5⟩
      have HB5 := Aside0.mk (below_step HB.out hb5.below)
      clear hb5
      dsimp only
      go_wp2
      exact ⟨⟨a + 1, by omega, by go_num, ⟨HB5.out⟩⟩, by simp [intOf]; omega⟩
    · have c0b : decide (a < l.length) = false := decide_eq_false c0
      have c0i : decide ((a : Int) < (l.length : Int)) = false := decide_eq_false (by omega)
      go_wp2
      go_ret
      exact ⟨rfl, HB.out⟩
set_option maxHeartbeats 4000000 in
set_option maxRecDepth 100000 in
theorem contains_calls (A : Option Addr) (c : Nat) (l : List Int) (w : World) (hC : Kd.C (Kd.int .i64) w A l.length l) (hg : ∀ n, n ∈ l → 1 ≤ n ∧ n ≤ 1500) (hl : l.length ≤ 100000) :
    Calls Try.prog 38 #[.slice A l.length c, .func (.func 39) #[] #[]] w fun e w' => e = .returned (.bool false) ∧ Below w.heap.size w w' := by
  have HI := Aside0.mk (index_calls A c l w hC hg hl)
  clear hC hg
  go_enter Try.func38, Try.ntmps38
  go_wp2_with (first
    | ((with_reducible refine gate_callee (f := 50) rfl ?_); refine goesL_ _ rfl rfl Try.func50 (by kernel_rfl) rfl #[.slice A l.length c, .func (.func 39) #[] #[]] rfl (by (try simp only [List.map_toArray, List.map_cons, List.map_nil]); first | done | rfl) ?_; refine HI.out.mono ?_; rintro e w5 ⟨rfl, hb5⟩; refine ⟨_, rfl, ?_⟩; have HB5 := Aside0.mk hb5; clear hb5))
  go_ret
  exact ⟨rfl, HB5.out⟩
def comesO (fl : List Fl) (tn : List Int) (a : S50) : Option (List Fl × List Int × S52) :=
  if tn.length ≤ 1000 then
    (if a.f0 < 0 ∨ (fl.length : Int) ≤ a.f0 ∨ 1500 < a.f1 then some (fl, tn, ⟨2, 0, 0⟩)
    else if (fl.getD a.f0.toNat zFl).ws.length = 40 then some (fl, tn, ⟨9, 0, 0⟩)
    else if (fl.getD a.f0.toNat zFl).ws.length < 40 then some (fl.set a.f0.toNat { fl.getD a.f0.toNat zFl with ws := (fl.getD a.f0.toNat zFl).ws ++ [a.f1] }, if (fl.getD a.f0.toNat zFl).ws.length = 0 then tn ++ [a.f0] else tn, ⟨0, 0, 0⟩)
    else none)
  else none
def fairFuel : Nat := 100000
def sendsO (fl : List Fl) (tn : List Int) : Option (List Fl × List Int × S52) :=
  if tn.length ≤ 1000 then (if tn = [] then some (fl, tn, ⟨7, 0, 0⟩) else sendsF fairFuel fl tn) else none
def playF : List S50 → List Fl → List Int → List S52 → Option (List S52)
  | [], _, _, out => some out
  | a :: l, fl, tn, out =>
    if 0 < a.f1 then (match comesO fl tn a with | none => none | some r => playF l r.1 r.2.1 (out ++ [r.2.2]))
    else if a.f1 < 0 then playF l fl tn (out ++ [⟨2, 0, 0⟩])
    else (match sendsO fl tn with | none => none | some r => playF l r.1 r.2.1 (out ++ [r.2.2]))
def fair_Play.f (qs : List Int) (l : List S50) : Option (List S52 × Int) :=
  if 1 ≤ qs.length ∧ qs.length ≤ 6 ∧ l.length ≤ 300 ∧ (∀ n, n ∈ qs → 1 ≤ n ∧ n ≤ 1500) then (match playF l (qs.map fun n => ⟨n, [], 0, false⟩) [] [] with | none => none | some r => some (r, 0)) else none
theorem comes_calls (fl : List Fl) (tn : List Int) (a : S50) (w : World) (rb base : Nat) (hR : FR w rb base fl tn) (hb : base ≤ w.heap.size) (fl' : List Fl) (tn' : List Int) (o : S52) (h : comesO fl tn a = some (fl', tn', o)) :
    Calls Try.prog 40 #[.pointer (some ⟨rb, 0, none⟩), .agg #[.int .i64 a.f0, .int .i64 a.f1]] w fun e w' => e = .returned (.agg #[.int .i64 o.f0, .int .i64 o.f1, .int .i64 o.f2]) ∧ FR w' rb base fl' tn' ∧ Goes base w w' := by
  unfold comesO at h
  by_cases ht : tn.length ≤ 1000
  · rw [if_pos ht] at h
    by_cases c0 : a.f0 < 0 ∨ (fl.length : Int) ≤ a.f0 ∨ 1500 < a.f1
    · rw [if_pos c0] at h
      simp only [Option.some.injEq, Prod.mk.injEq] at h
      obtain ⟨rfl, rfl, rfl⟩ := h
      exact comes_bad fl tn a w rb base hR hb c0
    · rw [if_neg c0] at h
      obtain ⟨f0, f1⟩ := a
      obtain ⟨i, hi⟩ : ∃ i : Nat, f0 = (i : Int) := ⟨f0.toNat, by simp only at c0; omega⟩
      subst hi
      simp only [Int.toNat_natCast] at h c0 ⊢
      by_cases c1 : (fl.getD i zFl).ws.length = 40
      · rw [if_pos c1] at h
        simp only [Option.some.injEq, Prod.mk.injEq] at h
        obtain ⟨rfl, rfl, rfl⟩ := h
        exact comes_full fl tn i f1 w rb base hR hb (by omega) (by omega) c1
      · rw [if_neg c1] at h
        by_cases c2 : (fl.getD i zFl).ws.length < 40
        · rw [if_pos c2] at h
          simp only [Option.some.injEq, Prod.mk.injEq] at h
          obtain ⟨rfl, rfl, rfl⟩ := h
          exact comes_good fl tn i f1 w rb base hR hb (by omega) (by omega) ht c2
        · rw [if_neg c2] at h
          exact absurd h (by simp)
  · rw [if_neg ht] at h
    exact absurd h (by simp)
theorem sends_calls (fl : List Fl) (tn : List Int) (w : World) (rb base : Nat) (hR : FR w rb base fl tn) (hb : base ≤ w.heap.size) (fl' : List Fl) (tn' : List Int) (o : S52) (h : sendsO fl tn = some (fl', tn', o)) :
    Calls Try.prog 42 #[.pointer (some ⟨rb, 0, none⟩)] w fun e w' => e = .returned (.agg #[.int .i64 o.f0, .int .i64 o.f1, .int .i64 o.f2]) ∧ FR w' rb base fl' tn' ∧ Goes base w w' := by
  unfold sendsO at h
  by_cases ht : tn.length ≤ 1000
  · rw [if_pos ht] at h
    by_cases c0 : tn = []
    · rw [if_pos c0] at h
      simp only [Option.some.injEq, Prod.mk.injEq] at h
      obtain ⟨rfl, rfl, rfl⟩ := h
      subst c0
      exact sends_none fl w rb base hR hb
    · rw [if_neg c0] at h
      exact sends_loop fairFuel fl tn w rb base hR fl' tn' o h hb ht
  · rw [if_neg ht] at h
    exact absurd h (by simp)
set_option maxHeartbeats 8000000 in
set_option maxRecDepth 100000 in
theorem play_calls (A0 : Option Addr) (c0 : Nat) (qs : List Int) (A1 : Option Addr) (c1 : Nat) (l : List S50) (res : List S52) (w : World) (hC0 : Kd.C (Kd.int .i64) w A0 qs.length qs) (hC1 : Kd.C k50 w A1 l.length l) (h1 : 1 ≤ qs.length) (h6 : qs.length ≤ 6) (h300 : l.length ≤ 300) (hg : ∀ n, n ∈ qs → 1 ≤ n ∧ n ≤ 1500) (h : playF l (qs.map fun n => ⟨n, [], 0, false⟩) [] [] = some res) :
    Calls Try.prog 33 #[.slice A0 qs.length c0, .slice A1 l.length c1] w fun e w' => ∃ v, e = .returned (.tuple #[v, .int .i64 0]) ∧ Kd.R k52 52 w' w.heap.size (fun _ => True) v res ∧ Below w.heap.size w w' := by
  have hu50 := Try.underlying50
  have hu52 := Try.underlying52
  have hu98 := Try.underlying98
  have hu96 := Try.underlying96
  have HC0 := Aside0.mk hC0
  have HC1 := Aside0.mk hC1
  have H := Aside0.mk h
  have HQ := Aside0.mk (contains_calls A0 c0 qs w hC0 hg (by omega))
  clear hC0 hC1 h hg
  have k0 : decide (qs.length < 1) = false := decide_eq_false (by omega)
  have k1 : decide (6 < qs.length) = false := decide_eq_false (by omega)
  have k2 : decide (300 < l.length) = false := decide_eq_false (by omega)
  have k3 : decide ((qs.length : Int) < 1) = false := decide_eq_false (by omega)
  have k4 : decide (6 < (qs.length : Int)) = false := decide_eq_false (by omega)
  have k5 : decide (300 < (l.length : Int)) = false := decide_eq_false (by omega)
  have H1 := Aside0.mk h1
  have H6 := Aside0.mk h6
  have H300 := Aside0.mk h300
  clear h1 h6 h300
  go_enter Try.func33, Try.ntmps33
  go_wp2_with (first
    | ((with_reducible refine gate_callee (f := 38) rfl ?_); refine goesL_ _ rfl rfl Try.func38 (by kernel_rfl) rfl #[.slice A0 qs.length c0, .func (.func 39) #[] #[]] rfl (by (try simp only [List.map_toArray, List.map_cons, List.map_nil]); first | done | rfl) ?_; refine HQ.out.mono ?_; rintro e w5 ⟨rfl, hb5⟩; refine ⟨_, rfl, ?_⟩; have HB5 := Aside0.mk hb5; clear hb5))
  obtain ⟨rb, hrb⟩ : ∃ n, w5.heap.size = n := ⟨_, rfl⟩
  have hab : w.heap.size ≤ w5.heap.size := HB5.out.size
  have HF0 := Aside0.mk (show FR (w5.alloc (.cells #[.slice none 0 0, .slice none 0 0] 96)) w5.heap.size w.heap.size [] [] from ⟨fun _ => False, fun _ => False, _, _, ⟨Array.getElem?_push_size, Kd.S_nil _ _ _ _ _, Kd.Q_nil _ _ _ _ _, fun _ h => h.elim, hab⟩⟩)
  have HG0 := Aside0.mk ((Goes.below HB5.out (Nat.le_refl _)).trans (Goes.below (base := w.heap.size) (below_alloc (Below.refl _ _) (.cells #[.slice none 0 0, .slice none 0 0] 96)) hab))
  have HAB := Aside0.mk (show w.heap.size ≤ rb by omega)
  rw [hrb] at HF0 ⊢
  clear k0 k1 k2 k3 k4 k5 HQ HB5 hrb hab
  go_loopw [31] (fun v31 wr => ∃ a : Nat, a ≤ qs.length ∧ v31 = .int .i64 (a : Int) ∧ Aside0 (FR wr rb w.heap.size ((qs.take a).map fun n => ⟨n, [], 0, false⟩) []) ∧ Aside0 (Goes w.heap.size w wr)) (fun v31 _ => qs.length - (intOf v31).toNat)
  case atStart => exact ⟨0, Nat.zero_le _, rfl, HF0, HG0⟩
  case round =>
    obtain ⟨a, ha, rfl, HF, HG⟩ := hrel
    obtain ⟨wo, hwo⟩ : ∃ wo : World, wo = wr := ⟨_, rfl⟩
    subst hwo
    clear HF0 HG0
    have hq6 := H6.out
    by_cases k0 : a < qs.length
    · have k0b : decide (a < qs.length) = true := decide_eq_true k0
      have k0i : decide ((a : Int) < (qs.length : Int)) = true := decide_eq_true (by omega)
      obtain ⟨ad, rfl, hx⟩ := Kd.at_int (Kd.C_below HC0.out HG.out.bel) (a : Int) (by omega) (by omega)
      rw [Int.toNat_natCast] at hx
      obtain ⟨z, hz⟩ : ∃ z, rd qs (a : Int) = z := ⟨_, rfl⟩
      rw [hz] at hx
      have HZ := Aside0.mk hz
      obtain ⟨S, T, fv, tv, hR⟩ := HF.out
      obtain ⟨A, c, rfl⟩ := Kd.S_slice hR.fls
      have hfl : ((qs.take a).map fun n => (⟨n, [], 0, false⟩ : Fl)).length = a := by rw [List.length_map, List.length_take]; omega
      rw [hfl] at hR
      have r0 : wo.cell? ⟨rb, 0, none⟩ = some (.slice A a c) := by rw [blk_cell hR.blk]; rfl
      have z0 := blk_frozen hR.blk 0
      have hb0 := blk_lt hR.blk
      have HR := Aside0.mk hR
      have HBW := Aside0.mk (show w.heap.size ≤ wo.heap.size from HG.out.bel.size)
      have HL := Aside0.mk hfl
      obtain ⟨fls, hfls⟩ : ∃ x, ((qs.take a).map fun n => (⟨n, [], 0, false⟩ : Fl)) = x := ⟨_, rfl⟩
      rw [hfls] at HR HL
      have HFL := Aside0.mk hfls
      clear hR hz hfl hfls
      go_wp2_with (first
        | ((with_reducible refine gate_builtin (b := .append) (xs := #[.tmp 39, .tmp 42]) rfl ?_); at_builtin; refine Kd.S_append kFl (w0 := wo) (W := wo) w.heap.size rfl (.tmp 39) (.tmp 42) 94 98 (.agg #[.int .i64 0, .slice none 0 0, .int .i64 0, .bool false]) 48 rfl Try.underlying94 info98 rfl (by decide) (by decide) (.slice A a c) fls (⟨z, [], 0, false⟩ : Fl) [.int .i64 z, .slice none 0 0, .int .i64 0, .bool false] (fun k => S k ∨ wo.heap.size ≤ k) (fun _ => False) rfl rfl (kFl_mkM _ _ _ _ (Kd.Q_nil _ _ _ _ _)) (fun _ hk => hk.elim) (fun _ hk => .inr hk) ?aO ?aB ?aS ?aL ?_; (case aO => exact Kd.S_mono HR.out.fls (fun _ h => ⟨.inl h, fun h => h⟩)); (case aB => exact Below.refl _ _); (case aS => exact HBW.out); (case aL => have := HL.out; have := H6.out; omega); intro v1 w6 ho hb6 hg6 hat6; obtain ⟨A9, c9, hv9⟩ := Kd.S_slice ho; subst hv9; have HQ6 := Aside0.mk ho; have HB6 := Aside0.mk hb6; have HG6 := Aside0.mk hg6; have hbl := (hg6.block rb (blk_lt HR.out.blk) (Kd.S_ne HR.out.fls HR.out.blk (by decide))).trans HR.out.blk; have g6 : w6.cell? ⟨rb, 0, none⟩ = some (.slice A a c) := (blk_cell hbl 0).trans rfl; have y6 := blk_frozen hbl 0; clear ho hb6 hg6 hat6 hbl))
      have hp := HR.out.fgrow HG6.out HB6.out HQ6.out
      rw [show (fls ++ [(⟨z, [], 0, false⟩ : Fl)]).length = fls.length + 1 from List.length_append] at hp
      have e : ((qs.take (a + 1)).map fun n => (⟨n, [], 0, false⟩ : Fl)) = fls ++ [⟨z, [], 0, false⟩] := by
        rw [List.take_add, List.map_append, HFL.out, List.drop_eq_getElem_cons k0, ← HZ.out, rd, Int.toNat_natCast, List.getD_eq_getElem?_getD, List.getElem?_eq_getElem k0]
        rfl
      refine ⟨⟨a + 1, by omega, by go_num, ⟨?_⟩, ⟨HG.out.trans hp.2⟩⟩, by simp [intOf]; omega⟩
      rw [e]
      exact ⟨_, _, _, _, hp.1⟩
    · have k0b : decide (a < qs.length) = false := decide_eq_false k0
      have k0i : decide ((a : Int) < (qs.length : Int)) = false := decide_eq_false (by omega)
      obtain rfl : a = qs.length := by omega
      have hF := HF.out
      rw [List.take_of_length_le (Nat.le_refl _)] at hF
      have HF1 := Aside0.mk hF
      clear hF HF ha k0
      clear k0b k0i
      go_wp2
      go_loopw [9, 49] (fun v9 v49 wr => ∃ (j : Nat) (fl : List Fl) (tn : List Int) (out : List S52), j ≤ l.length ∧ v49 = .int .i64 (j : Int) ∧ Aside0 (playF (l.drop j) fl tn out = some res) ∧ Aside0 (out.length ≤ j) ∧ Aside0 (Kd.R k52 52 wr w.heap.size (fun _ => True) v9 out) ∧ Aside0 (FR wr rb w.heap.size fl tn) ∧ Aside0 (Goes w.heap.size w wr)) (fun _ v49 _ => l.length - (intOf v49).toNat)
      case atStart => exact ⟨0, _, _, [], Nat.zero_le _, rfl, ⟨by rw [List.drop_zero]; exact H.out⟩, ⟨Nat.le_refl _⟩, ⟨Kd.R_nil _ _ _ _ _⟩, HF1, HG⟩
      case round =>
        clear HF1 HG H
        have h300 := H300.out
        obtain ⟨j, fl, tn, out, hj, rfl, H, HL, HO, HF, HG⟩ := hrel
        obtain ⟨wo, hwo⟩ : ∃ wo : World, wo = wr := ⟨_, rfl⟩
        subst hwo
        by_cases k0 : j < l.length
        · have k0b : decide (j < l.length) = true := decide_eq_true k0
          have k0i : decide ((j : Int) < (l.length : Int)) = true := decide_eq_true (by omega)
          obtain ⟨ad, rfl, hx0, hx1⟩ := at_T50 (Kd.C_below HC1.out HG.out.bel) (j : Int) (by omega) (by omega)
          rw [Int.toNat_natCast] at hx0 hx1
          obtain ⟨a, hz⟩ : ∃ z, rd_T50 l (j : Int) = z := ⟨_, rfl⟩
          rw [hz] at hx0 hx1
          obtain ⟨f0, f1⟩ := a
          have hdrop : l.drop j = (⟨f0, f1⟩ : S50) :: l.drop (j + 1) := by
            rw [List.drop_eq_getElem_cons k0]
            congr 1
            rw [← hz, rd_T50, Int.toNat_natCast, List.getD_eq_getElem?_getD, List.getElem?_eq_getElem k0]
            rfl
          have h := H.out
          rw [hdrop, playF] at h
          have HBW := Aside0.mk (show w.heap.size ≤ wo.heap.size from HG.out.bel.size)
          simp only at hx0 hx1 h
          clear hz hdrop H
          by_cases s0 : 0 < f1
          · rw [if_pos s0] at h
            rcases hco : comesO fl tn ⟨f0, f1⟩ with _ | ⟨fl1, tn1, o⟩
            · rw [hco] at h
              exact absurd h (by simp)
            rw [hco] at h
            have HCO := Aside0.mk hco
            have H := Aside0.mk h
            have s0b : decide (0 < f1) = true := decide_eq_true s0
            clear h hco
            go_wp2_with (first
          | ((with_reducible refine gate_callee (f := 40) rfl ?_); refine goesL_ _ rfl rfl Try.func40 (by kernel_rfl) rfl #[.pointer (some ⟨rb, 0, none⟩), .agg #[.int .i64 f0, .int .i64 f1]] rfl (by (try simp only [List.map_toArray, List.map_cons, List.map_nil]); first | done | rfl) ?_; refine (comes_calls fl tn ⟨f0, f1⟩ _ rb w.heap.size (HF.out.of_below (below_alloc (Below.refl _ _) _)) (Nat.le_trans HBW.out (below_alloc (Below.refl wo.heap.size wo) _).size) fl1 tn1 o HCO.out).mono ?_; rintro e w5 ⟨rfl, hf5, hg5⟩; refine ⟨_, rfl, ?_⟩; have HF5 := Aside0.mk hf5; have HR5 := Aside0.mk (hg5.onl.R (Kd.R_alloc HO.out _)); have HG5 := Aside0.mk ((HG.out.trans (Goes.below (base := w.heap.size) (below_alloc (Below.refl _ _) _) HBW.out)).trans hg5); clear hf5 hg5)
          | ((with_reducible refine gate_builtin (b := .append) (xs := #[.tmp 62, .tmp 66]) rfl ?_); at_builtin; refine Kd.R_append k52 (w0 := w) (W := w5) w.heap.size rfl (.tmp 62) (.tmp 66) 44 52 (.agg #[.int .i64 0, .int .i64 0, .int .i64 0]) 24 rfl Try.underlying44 info52 rfl (by decide) (by decide) _ out o [.int .i64 o.f0, .int .i64 o.f1, .int .i64 o.f2] (fun _ => True) (fun _ => False) rfl rfl (k52_mkM _ _ _ o) (fun _ hk => hk.elim) (fun _ _ => trivial) ?aO ?aB ?aS ?aL ?_; (case aO => exact HR5.out); (case aB => exact HG5.out.bel); (case aS => exact HG5.out.bel.size); (case aL => have := HL.out; have := H300.out; omega); intro v1 w6 ho hb6 hg6 hat6; have HO6 := Aside0.mk ho; have HG6 := Aside0.mk (goes_of_below hb6); have HF6 := Aside0.mk (HF5.out.of_grown52 HR5.out hg6); clear ho hb6 hg6 hat6))
            exact ⟨⟨j + 1, fl1, tn1, out ++ [o], by omega, by go_num, H, ⟨by rw [List.length_append]; have := HL.out; simp; omega⟩, HO6, HF6, HG6⟩, by simp [intOf]; omega⟩
          · rw [if_neg s0] at h
            have s0b : decide (0 < f1) = false := decide_eq_false s0
            by_cases s1 : f1 < 0
            · rw [if_pos s1] at h
              have H := Aside0.mk h
              have s1b : decide (f1 < 0) = true := decide_eq_true s1
              obtain ⟨o, ho⟩ : ∃ o : S52, o = ⟨2, 0, 0⟩ := ⟨_, rfl⟩
              clear h
              subst ho
              go_wp2_with (first
          | ((with_reducible refine gate_callee (f := 41) rfl ?_); refine goesL_ _ rfl rfl Try.func41 (by kernel_rfl) rfl #[.int .i64 2] rfl (by (try simp only [List.map_toArray, List.map_cons, List.map_nil]); first | done | rfl) ?_; refine (fair_no.calls 2 2 0 0 _ rfl).mono ?_; rintro e w5 ⟨rfl, hb5⟩; refine ⟨_, rfl, ?_⟩; have HF5 := Aside0.mk ((HF.out.of_below (below_alloc (Below.refl _ _) _)).of_below hb5); have HR5 := Aside0.mk (Kd.R_below (Kd.R_alloc HO.out _) hb5); have HG5 := Aside0.mk ((HG.out.trans (Goes.below (base := w.heap.size) (below_alloc (Below.refl _ _) _) HBW.out)).trans (Goes.below hb5 (Nat.le_trans HBW.out (below_alloc (Below.refl wo.heap.size wo) _).size))); clear hb5)
          | ((with_reducible refine gate_builtin (b := .append) (xs := #[.tmp 72, .tmp 74]) rfl ?_); at_builtin; refine Kd.R_append k52 (w0 := w) (W := w5) w.heap.size rfl (.tmp 72) (.tmp 74) 44 52 (.agg #[.int .i64 0, .int .i64 0, .int .i64 0]) 24 rfl Try.underlying44 info52 rfl (by decide) (by decide) _ out (⟨2, 0, 0⟩ : S52) [.int .i64 2, .int .i64 0, .int .i64 0] (fun _ => True) (fun _ => False) rfl rfl (k52_mkM _ _ _ (⟨2, 0, 0⟩ : S52)) (fun _ hk => hk.elim) (fun _ _ => trivial) ?aO ?aB ?aS ?aL ?_; (case aO => exact HR5.out); (case aB => exact HG5.out.bel); (case aS => exact HG5.out.bel.size); (case aL => have := HL.out; have := H300.out; omega); intro v1 w6 ho hb6 hg6 hat6; have HO6 := Aside0.mk ho; have HG6 := Aside0.mk (goes_of_below hb6); have HF6 := Aside0.mk (HF5.out.of_grown52 HR5.out hg6); clear ho hb6 hg6 hat6))
              exact ⟨⟨j + 1, fl, tn, out ++ [⟨2, 0, 0⟩], by omega, by go_num, H, ⟨by rw [List.length_append]; have := HL.out; simp; omega⟩, HO6, HF6, HG6⟩, by simp [intOf]; omega⟩
            · rw [if_neg s1] at h
              have s1b : decide (f1 < 0) = false := decide_eq_false s1
              rcases hco : sendsO fl tn with _ | ⟨fl1, tn1, o⟩
              · rw [hco] at h
                exact absurd h (by simp)
              rw [hco] at h
              have HCO := Aside0.mk hco
              have H := Aside0.mk h
              clear h hco
              go_wp2_with (first
          | ((with_reducible refine gate_callee (f := 42) rfl ?_); refine goesL_ _ rfl rfl Try.func42 (by kernel_rfl) rfl #[.pointer (some ⟨rb, 0, none⟩)] rfl (by (try simp only [List.map_toArray, List.map_cons, List.map_nil]); first | done | rfl) ?_; refine (sends_calls fl tn _ rb w.heap.size (HF.out.of_below (below_alloc (Below.refl _ _) _)) (Nat.le_trans HBW.out (below_alloc (Below.refl wo.heap.size wo) _).size) fl1 tn1 o HCO.out).mono ?_; rintro e w5 ⟨rfl, hf5, hg5⟩; refine ⟨_, rfl, ?_⟩; have HF5 := Aside0.mk hf5; have HR5 := Aside0.mk (hg5.onl.R (Kd.R_alloc HO.out _)); have HG5 := Aside0.mk ((HG.out.trans (Goes.below (base := w.heap.size) (below_alloc (Below.refl _ _) _) HBW.out)).trans hg5); clear hf5 hg5)
          | ((with_reducible refine gate_builtin (b := .append) (xs := #[.tmp 53, .tmp 56]) rfl ?_); at_builtin; refine Kd.R_append k52 (w0 := w) (W := w5) w.heap.size rfl (.tmp 53) (.tmp 56) 44 52 (.agg #[.int .i64 0, .int .i64 0, .int .i64 0]) 24 rfl Try.underlying44 info52 rfl (by decide) (by decide) _ out o [.int .i64 o.f0, .int .i64 o.f1, .int .i64 o.f2] (fun _ => True) (fun _ => False) rfl rfl (k52_mkM _ _ _ o) (fun _ hk => hk.elim) (fun _ _ => trivial) ?aO ?aB ?aS ?aL ?_; (case aO => exact HR5.out); (case aB => exact HG5.out.bel); (case aS => exact HG5.out.bel.size); (case aL => have := HL.out; have := H300.out; omega); intro v1 w6 ho hb6 hg6 hat6; have HO6 := Aside0.mk ho; have HG6 := Aside0.mk (goes_of_below hb6); have HF6 := Aside0.mk (HF5.out.of_grown52 HR5.out hg6); clear ho hb6 hg6 hat6))
              exact ⟨⟨j + 1, fl1, tn1, out ++ [o], by omega, by go_num, H, ⟨by rw [List.length_append]; have := HL.out; simp; omega⟩, HO6, HF6, HG6⟩, by simp [intOf]; omega⟩
        · have k0b : decide (j < l.length) = false := decide_eq_false k0
          have k0i : decide ((j : Int) < (l.length : Int)) = false := decide_eq_false (by omega)
          have h := H.out
          rw [List.drop_eq_nil_of_le (by omega), playF] at h
          injection h with h
          subst h
          clear H
          go_wp2
          go_ret2
          exact ⟨_, rfl, HO.out, HG.out.bel⟩
theorem fair_Play.calls (A0 : Option Addr) (c0 : Nat) (l0 : List Int) (A1 : Option Addr) (c1 : Nat) (l1 : List S50) (r1 : List S52) (r2 : Int) (w : World) (hr0 : Kd.C (Kd.int .i64) w A0 l0.length l0) (hc0 : l0.length ≤ c0) (hr1 : Kd.C k50 w A1 l1.length l1) (hc1 : l1.length ≤ c1) (h : fair_Play.f l0 l1 = some (r1, r2)) :
    Calls Try.prog 33 #[.slice A0 l0.length c0, .slice A1 l1.length c1] w fun e w' => ∃ v0_ : Value, e = .returned (.tuple #[v0_, .int .i64 r2]) ∧ Kd.R k52 52 w' w.heap.size (fun _ => True) v0_ r1 ∧ Below w.heap.size w w' := by
  unfold fair_Play.f at h
  by_cases c : 1 ≤ l0.length ∧ l0.length ≤ 6 ∧ l1.length ≤ 300 ∧ (∀ n, n ∈ l0 → 1 ≤ n ∧ n ≤ 1500)
  · rw [if_pos c] at h
    rcases hp : playF l1 (l0.map fun n => ⟨n, [], 0, false⟩) [] [] with _ | r
    · rw [hp] at h
      exact absurd h (by simp)
    · rw [hp] at h
      simp only [Option.some.injEq, Prod.mk.injEq] at h
      obtain ⟨rfl, rfl⟩ := h
      exact play_calls A0 c0 l0 A1 c1 l1 r w hr0 hr1 c.1 c.2.1 c.2.2.1 c.2.2.2 hp
  · rw [if_neg c] at h
    exact absurd h (by simp)

end Go.Proofs.Ytlgehakaedokeaa.PFairOrder
