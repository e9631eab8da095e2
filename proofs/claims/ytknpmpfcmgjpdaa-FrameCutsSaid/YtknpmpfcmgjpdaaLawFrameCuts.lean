/- Printed by a program of this session (wip/myprint.py): Go functions of the law as Lean functions, and the proof that the code comes to these answers. -/
import Derived.Test.YtknpmpfcmgjpdaaRows
import Derived.Test.YtknpmpfcmgjpdaaPFrameCutsx3
import Derived.Test.YtknpmpfcmgjpdaaPureFrameCuts
import Derived.WalkKit
import Derived.ProofKit
import Derived.OpenShut
import Derived.ShutString
import Derived.ChangeOld
import Derived.Below
import Derived.SizedLaws
import Derived.ChangeArms
import Derived.Deep.Slices
import Derived.Test.YtknpmpfcmgjpdaaWSized
namespace Go.Proofs.Ytknpmpfcmgjpdaa.frameCuts
open Go.ChangeShapes Go.WideShapes Go.ChangeAt Go.RowKit
open Go.ChangeMaps (open_string shut_string)
set_option linter.unusedVariables false
theorem own : ownKnob Try.prog.godebug = none := by kernel_rfl
namespace Opn
open Go.Proofs.YtknpmpfcmgjpdaaW.PrintWords Go.Proofs.YtknpmpfcmgjpdaaW.PrintLast
section
variable {H : Type} {enc : TypeId × Value → H} {P : Program} {w : World} {base : Nat} {spare : Nat → Bool} {held : Bool} {α β γ : Type}
/-- What stands in the cells of type t reads as a value of the kind d, of which φ is known. -/
def Opens (enc : TypeId × Value → H) (P : Program) (w : World) (base : Nat) (spare : Nat → Bool) (held : Bool) (t : TypeId) (d : Kd α) (φ : α → Prop) : Prop :=
 ∀ fuel cs x, DataW.trod enc P w base spare held fuel t cs = some x → ∃ a, d.K w a cs ∧ φ a
theorem opens_int {t : TypeId} {k : IntKind} (ht : P.underlying t = some (.int k)) : Opens enc P w base spare held t (Kd.int k) (fun a => (Lit.int k a).wf = true) := fun _ _ _ h => by
 obtain ⟨n, rfl, _, hw⟩ := DataW.trod_int ht h
 exact ⟨n, rfl, hw⟩
theorem opens_bool {t : TypeId} (ht : P.underlying t = some .bool) : Opens enc P w base spare held t Kd.bool (fun _ => True) := fun _ _ _ h => by
 obtain ⟨b, rfl, _⟩ := DataW.trod_bool ht h
 exact ⟨b, rfl, trivial⟩
theorem opens_string {t : TypeId} (ht : P.underlying t = some .string) : Opens enc P w base spare held t Kd.string (fun s => s.size ≤ maxLen) := fun _ _ _ h => by
 obtain ⟨s, rfl, _, hs⟩ := DataW.trod_string ht h
 exact ⟨s, rfl, hs⟩
theorem opens_slice {t e : TypeId} {d : Kd α} {φ : α → Prop} (ht : P.underlying t = some (.slice e)) (hc : P.cellsOf e = d.sz) (he : Opens enc P w base spare held e d φ) :
  Opens enc P w base spare held t (Kd.slice e d) (fun xs => xs.length ≤ maxLen ∧ ∀ x, x ∈ xs → φ x) := fun fuel cs x h => by
 rcases Go.Deep.open_slice ht h with ⟨rfl, _⟩ | ⟨a, len, cap, m, n, D, Pl, rfl, _, hl, hm, hmm, _, hx⟩
 ·exact ⟨[], ⟨none, 0, rfl, Nat.le_refl _, rfl, by simp, fun h => absurd h (Nat.lt_irrefl 0)⟩, Nat.zero_le _, fun x hx => by cases hx⟩
 ·have hlm : len ≤ m := by rw [hmm]; split <;> omega
  have each : ∀ i, ∃ z : Option α, i < len → ∃ a' c, z = some a' ∧ c.length = d.sz ∧ d.K w a' c ∧ φ a' ∧ ∀ j u, c[j]? = some u → w.cell? (a.add (i * d.sz + j)) = some u := by
   intro i
   by_cases hi : i < len
   ·obtain ⟨cs', h1, h2⟩ := hx i (by omega)
    obtain ⟨a', hk, hp⟩ := he _ _ _ h2
    rw [hc] at h1
    obtain ⟨_, hlen, hcell⟩ := World.cells?_some h1
    refine ⟨some a', fun _ => ⟨a', cs', rfl, hlen, hk, hp, fun j u hu => ?_⟩⟩
    have hj : j < d.sz := by
     have := (List.getElem?_eq_some_iff.1 hu).1
     omega
    have := hcell j hj
    rw [add_add] at this
    rw [this]
    exact hu
   ·exact ⟨none, fun h => absurd h hi⟩
  have hf : ∃ f : Nat → Option α, ∀ i, i < len → ∃ a' c, f i = some a' ∧ c.length = d.sz ∧ d.K w a' c ∧ φ a' ∧ ∀ j u, c[j]? = some u → w.cell? (a.add (i * d.sz + j)) = some u := ⟨fun i => (each i).choose, fun i => (each i).choose_spec⟩
  obtain ⟨f, hf⟩ := hf
  have hlist : ∃ xs : List α, xs.length = len ∧ ∀ i, i < len → xs[i]? = f i := by
   have : ∀ n, n ≤ len → ∃ xs : List α, xs.length = n ∧ ∀ i, i < n → xs[i]? = f i := by
    intro n
    induction n with
    | zero => exact fun _ => ⟨[], rfl, fun i hi => absurd hi (Nat.not_lt_zero _)⟩
    | succ n ih =>
     intro hn
     obtain ⟨xs, h1, h2⟩ := ih (by omega)
     obtain ⟨a', _, e, _⟩ := hf n (by omega)
     refine ⟨xs ++ [a'], by simp [h1], fun i hi => ?_⟩
     by_cases hi' : i < n
     ·rw [List.getElem?_append_left (by omega)]
      exact h2 i hi'
     ·have : i = n := by omega
      subst this
      rw [List.getElem?_append_right (by omega), h1, Nat.sub_self, e]
      rfl
   exact this len (Nat.le_refl _)
  obtain ⟨xs, hxl, hxs⟩ := hlist
  refine ⟨xs, ⟨some a, cap, by rw [hxl], by omega, rfl, ?_, fun _ => ⟨a, rfl, fun j p hj => ?_⟩⟩, by omega, fun x hx => ?_⟩
  ·unfold maxLen at hm
   omega
  ·have hjl : j < len := by
    have := (List.getElem?_eq_some_iff.1 hj).1
    omega
   obtain ⟨a', c, e, h1, h2, _, h4⟩ := hf j hjl
   rw [hxs j hjl, e] at hj
   cases hj
   exact ⟨c, h1, h2, h4⟩
  ·obtain ⟨i, hi⟩ := List.getElem?_of_mem hx
   have hil : i < len := by
    have := (List.getElem?_eq_some_iff.1 hi).1
    omega
   obtain ⟨a', c, e, _, _, h3, _⟩ := hf i hil
   rw [hxs i hil, e] at hi
   cases hi
   exact h3
/-- The same, of the cells from a place on. -/
def OpAt (w : World) (off : Nat) (d : Kd α) (φ : α → Prop) (cs : List Value) : Prop := ∃ a, d.K w a ((cs.drop off).take d.sz) ∧ φ a
theorem OpAt.pair {off : Nat} {d : Kd α} {d' : Kd β} {φ : α → Prop} {φ' : β → Prop} {cs : List Value} (h : OpAt w off d φ cs) (h' : OpAt w (off + d.sz) d' φ' cs) : OpAt w off (Kd.pair d d') (fun p => φ p.1 ∧ φ' p.2) cs := by
 obtain ⟨a, h1, h2⟩ := h
 obtain ⟨b, h3, h4⟩ := h'
 refine ⟨(a, b), ⟨_, _, ?_, h1, h3⟩, h2, h4⟩
 show (cs.drop off).take (d.sz + d'.sz) = _
 rw [List.take_add, List.drop_drop]
theorem OpAt.iso {off : Nat} {d : Kd α} {φ : α → Prop} {cs : List Value} (h : OpAt w off d φ cs) (f : β → α) (g : α → β) (hfg : ∀ a, f (g a) = a) : OpAt w off (Kd.iso d f) (fun b => φ (f b)) cs := by
 obtain ⟨a, h1, h2⟩ := h
 exact ⟨g a, by show d.K w (f (g a)) _; rw [hfg]; exact h1, by show φ (f (g a)); rw [hfg]; exact h2⟩
theorem opens_struct {t : TypeId} {fs : Array Field} {d : Kd α} {φ : α → Prop} (ht : P.underlying t = some (.struct fs)) (hc : P.cellsOf t = d.sz)
  (h : ∀ cs, (∀ (i : Nat) (f : Field), fs[i]? = some f → ∃ n x, DataW.trod enc P w base spare held n f.type ((cs.drop f.offset).take (P.cellsOf f.type)) = some x) → OpAt w 0 d φ cs) : Opens enc P w base spare held t d φ := fun fuel cs x hx => by
 obtain ⟨xs, n, _, _, hl, hlen, hf⟩ := DataW.trod_struct ht hx
 obtain ⟨a, h1, h2⟩ := h cs (fun i f hif => by
  have hi : i < xs.length := by
   have := (Array.getElem?_eq_some_iff.1 hif).1
   omega
  exact ⟨n, xs[i], by rw [hf i f hif, List.getElem?_eq_getElem hi]⟩)
 refine ⟨a, ?_, h2⟩
 rw [List.drop_zero, List.take_of_length_le (by omega)] at h1
 exact h1
theorem Opens.at {t : TypeId} {d : Kd α} {φ : α → Prop} (h : Opens enc P w base spare held t d φ) (hc : P.cellsOf t = d.sz) {off : Nat} {cs : List Value} (hx : ∃ n x, DataW.trod enc P w base spare held n t ((cs.drop off).take (P.cellsOf t)) = some x) : OpAt w off d φ cs := by
 obtain ⟨n, x, hx⟩ := hx
 rw [hc] at hx
 exact h _ _ _ hx
end
end Opn
theorem laidOut : laidOutB Try.prog = true := by kernel_rfl
def IsRow (k : IntKind) (w : World) (a : Option Addr) (len cap : Nat) (zs : List Int) : Prop :=
 (a = none ∧ len = 0 ∧ cap = 0 ∧ zs = []) ∨
 ∃ x, a = some x ∧ len ≤ cap ∧ cap ≤ maxLen ∧ zs.length = cap ∧ (∀ i, i < zs.length → w.cell? (x.add i) = some (.int k (zs.getD i 0))) ∧ ∀ n ∈ zs, (Lit.int k n).wf = true
set_option maxRecDepth 100000 in
theorem lifted (os : Os) (started : os.Started) (H : Type) (enc : TypeId × Value → H) :
  ReturnsInHanded {} Try.checked os 11 .any (Rows.frameCutsSpec.pre6 enc Try.prog Try.f11 Rows.frameCutsRow.domain false) (Rows.frameCutsSpec.post enc Try.prog Try.f11 false true false false) := by
 refine returnsInHanded_of_change_sized (C := Try.checked) own started (by kernel_rfl) Try.func11
  (ChangeSpec.witness6 (enc := enc) (C := Try.checked) false ⟨#[], #[.slice none 0 0, .slice none 0 0], []⟩ 8 (by kernel_rfl) (by kernel_rfl) (by kernel_rfl) (by kernel_rfl)) ?_
 intro W base args ds gs before hval0 hW hcnd hsz0 _
 have hsz : (DataW.weightsEach Try.prog (Try.f11.params.toList ++ Rows.frameCutsSpec.plain.varTypes Try.prog) (ds ++ gs)).all (· ≤ reachBytes) = true := hsz0
 have hval : ∀ (j : Nat) t v, Try.f11.params[j]? = some t → args[j]? = some v → Value.okWide Try.prog W .any base t v := hval0
 have hW' := hW
 obtain ⟨p, q, hA0, hV, rfl, hfz, hnd⟩ := hW
 have hA : DataW.TrodAll enc Try.prog W 0 (fun _ => true) true Try.f11.params.toList args.toList ds p := hA0
 rw [Try.params11] at hA hval hsz
 obtain ⟨v0, vs0, d0, ds0, p0, q0, hargs, rfl, rfl, h0, r0⟩ := trodAll_cons hA
 obtain ⟨v1, vs1, d1, ds1, p1, q1, rfl, rfl, rfl, h1, r1⟩ := trodAll_cons r0
 obtain ⟨rfl, rfl, rfl⟩ := trodAll_nil r1
 obtain rfl : args = #[v0, v1] := by cases args; simp_all
 obtain ⟨rfl, rfl⟩ := trodVars_none hV
 obtain ⟨a0, len0, cap0, rfl⟩ := okWide_slice Try.underlying51 (hval 0 51 v0 rfl rfl)
 have k0 := h0
 have lt0 : ∀ x ∈ p0, x.block < W.heap.size := by obtain ⟨m, hm⟩ := k0; exact DataW.trod_lt m _ _ _ hm
 obtain ⟨fuel0, hfu0⟩ := h0
 obtain ⟨z0, ⟨aa0, cc0, hcs0, hlc0, hC0⟩, hphi0⟩ := (Opn.opens_slice Try.underlying51 (by kernel_rfl) (Opn.opens_slice Try.underlying22 (by kernel_rfl) (Opn.opens_int Try.underlying5))) _ _ _ hfu0
 simp only [Value.cells, List.cons.injEq, Value.slice.injEq, and_true] at hcs0
 obtain ⟨rfl, rfl, rfl⟩ := hcs0
 obtain ⟨a1, len1, cap1, rfl⟩ := okWide_slice Try.underlying33 (hval 1 33 v1 rfl rfl)
 have k1 := h1
 have lt1 : ∀ x ∈ p1, x.block < W.heap.size := by obtain ⟨m, hm⟩ := k1; exact DataW.trod_lt m _ _ _ hm
 obtain ⟨z1, w1⟩ : ∃ zs, IsRow .i64 W a1 len1 cap1 zs := by
  obtain ⟨fuel, hf⟩ := h1
  rcases open_ints Try.underlying33 Try.underlying3 (by kernel_rfl) hf with ⟨hcs, _⟩ | ⟨x, l, c, zs, hcs, _, hl, hm, hz, _, hcell, hwz⟩
  ·simp [Value.cells] at hcs
   obtain ⟨rfl, rfl, rfl⟩ := hcs
   exact ⟨[], .inl ⟨rfl, rfl, rfl, rfl⟩⟩
  ·simp [Value.cells] at hcs
   obtain ⟨rfl, rfl, rfl⟩ := hcs
   exact ⟨zs, .inr ⟨_, rfl, hl, hm, by simpa using hz, hcell, hwz⟩⟩
 have y1 : len1 * 8 ≤ 140737488351232 := Go.Proofs.YtknpmpfcmgjpdaaW.PrintWords.sized_ints hsz (j := 1) (t := 33) rfl rfl Try.underlying33 Try.underlying3 (by kernel_rfl) (by kernel_rfl) h1
 clear hA0 hval0 hsz0 hsz
 refine (PFrameCuts.packthreadkeep_FrameCuts.walk Pure.FrameCuts _ _ z0 a1 len1 cap1 z1 W hC0 hlc0 hphi0 w1 y1).mono fun e W' ⟨he, bel⟩ => ?_
 subst he
 exact ⟨_, rfl, _, _, _, [], _, [], hW', trodAll_mk1 (shut_bool Try.underlying4 _), (trodAll_cons_mk (Below.trod laidOut (by kernel_rfl) (of_decide_eq_true (by kernel_rfl)) k0 bel lt0) (trodAll_cons_mk (Below.trod laidOut (by kernel_rfl) (of_decide_eq_true (by kernel_rfl)) k1 bel lt1) trodAll_mk0)), rfl, bel.frame _, fun h => by cases h⟩
theorem over : Rows.frameCutsRow.holds Try.pinned (OpenSpec.ofChange Rows.frameCutsSpec) :=
 OpenClaim.holds_of_wide 11 Try.f11 rfl rfl rfl rfl rfl rfl rfl ⟨rfl, rfl, rfl, rfl, rfl⟩ rfl rfl rfl rfl rfl (by kernel_rfl) Try.func11 (by kernel_rfl)
  (of_decide_eq_true (by kernel_rfl)) (by unfold Func.isWrapper; first | (rw [if_pos (by decide +kernel)]; kernel_rfl) | (rw [if_neg (by decide +kernel)]; exact ⟨rfl, rfl⟩))
  (fun os started H enc _ => lifted os started H enc)
theorem proved : Rows.FrameCutsSaid := over
#print axioms proved
end Go.Proofs.Ytknpmpfcmgjpdaa.frameCuts
namespace Go.Proofs.Ytknpmpfcmgjpdaa
/-- The row, under a short name, for the claim. -/
theorem frameCuts_holds : Rows.FrameCutsSaid := frameCuts.proved
end Go.Proofs.Ytknpmpfcmgjpdaa
