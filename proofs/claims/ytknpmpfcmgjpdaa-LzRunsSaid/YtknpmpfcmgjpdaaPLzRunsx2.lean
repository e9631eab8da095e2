/- Printed by a program of this session (wip/myprint.py): Go functions of the law as Lean functions, and the proof that the code comes to these answers. -/
import Derived.Test.YtknpmpfcmgjpdaaPLzRunsx0
import Derived.Test.YtknpmpfcmgjpdaaPLzRunsx1
namespace Go.Proofs.Ytknpmpfcmgjpdaa.PLzRuns
open Go.RowKit Go.Proofs.YtknpmpfcmgjpdaaW.PrintWords Go.Proofs.YtknpmpfcmgjpdaaW.PrintLast Go.Proofs.YtknpmpfcmgjpdaaW.PrintMore
attribute [local go_sem] max2_int min2_int max_two min_two max_three min_three max_four min_four   -- for this text's walks alone
attribute [local go_sem] pn_setCell_drewN
set_option linter.unusedVariables false
set_option linter.unusedSimpArgs false

/-! ### lz_Parse: function 21, by hand -/
theorem gm_eq3 {P : Program} (w : World) (d : Nat) (kt e : TypeId) (hu : P.underlying kt = some (.array 3 e)) (he : P.underlying e = some (.int .u8)) (hs : (P.info? e).map (fun i => (i.zero, i.size, i.bytes)) = some (some (.int .u8 0), 1, 1)) (x y z x' y' z' : Int) :
    (Op.equalIn (d + 2) kt (.agg #[.int .u8 x, .int .u8 y, .int .u8 z]) (.agg #[.int .u8 x', .int .u8 y', .int .u8 z'])).run P w = .ok (x == x' && (y == y' && z == z')) w := by
  obtain ⟨i0, hi, _, hsz, _⟩ := info_parts hs
  have eqi : ∀ a b : Int, (Op.equalIn (d + 1) e (.int .u8 a) (.int .u8 b)).run P w = .ok (a == b) w := by
    intro a b
    simp [Op.equalIn, run_underlying he]
  have ho : (sizeOf e).run P w = .ok 1 w := by simp [sizeOf, typeInfo, hi, hsz]
  have hp : ∀ (cs : Array Value) (off : Nat) (v : Value), cs[off]? = some v → (part e cs off).run P w = .ok v w := by
    intro cs off v h
    simp [part, isAgg, run_underlying he, h]
  rw [Op.equalIn]
  simp only [Sem.run_bind, run_underlying hu, Result.andThen_ok, ho, Std.Legacy.Range.forIn_eq_forIn_range', Std.Legacy.Range.size, List.range']
  simp [hp, eqi]
  by_cases h1 : x = x' <;> by_cases h2 : y = y' <;> by_cases h3 : z = z' <;> simp [h1, h2, h3, hp, eqi]
def mkEs {κ : Type} (ka : κ → Value) (L : List (κ × Value)) : Array MapEntry := (L.mapIdx (fun i p => ({ key := ka p.1, val := p.2, born := i } : MapEntry))).toArray
structure KeyOk {κ : Type} [DecidableEq κ] (P : Program) (kt : TypeId) (ka : κ → Value) : Prop where
  find : ∀ (k : κ) (L : List (κ × Value)) (w : World), ((∀ p, p ∈ L → p.1 ≠ k) ∧ (Instr.findKey kt (ka k) (mkEs ka L).toList).run P w = .ok none w) ∨ ∃ i p, L[i]? = some p ∧ p.1 = k ∧ (Instr.findKey kt (ka k) (mkEs ka L).toList).run P w = .ok (some (i, p.2)) w
  same : ∀ k, Instr.sameBits 10000 (ka k) (ka k) = true
  check : ∀ b k w, (Instr.checkKey b 10000 kt (ka k)).run P w = .ok () w
theorem gm_asking {κ : Type} [DecidableEq κ] {P : Program} {kt : TypeId} {ka : κ → Value} (heq : ∀ a b w, (Op.equal kt (ka a) (ka b)).run P w = .ok (decide (a = b)) w) (k : κ) (w : World) :
    ∀ (L : List (κ × Value)) (es : List MapEntry) (o : Nat), es.map (fun e => (e.key, e.val)) = L.map (fun p => (ka p.1, p.2)) → ((∀ p, p ∈ L → p.1 ≠ k) ∧ (Instr.findAsking kt (ka k) es o).run P w = .ok none w) ∨ ∃ i p, L[i]? = some p ∧ p.1 = k ∧ (Instr.findAsking kt (ka k) es o).run P w = .ok (some (o + i, p.2)) w
  | [], es, o, h => by
    have : es = [] := by simpa using h
    subst this
    exact .inl ⟨by simp, by simp [Instr.findAsking]⟩
  | p :: t, es, o, h => by
    obtain ⟨e, et, rfl⟩ : ∃ e et, es = e :: et := by
      cases es with
      | nil => simp at h
      | cons e et => exact ⟨e, et, rfl⟩
    simp only [List.map_cons, List.cons.injEq, Prod.mk.injEq] at h
    obtain ⟨⟨h1, h2⟩, h3⟩ := h
    by_cases c : k = p.1
    · subst c
      refine .inr ⟨0, p, rfl, rfl, ?_⟩
      simp [Instr.findAsking, h1, heq, h2]
    · have hk : ∀ w, (Op.equal kt (ka k) e.key).run P w = .ok false w := fun w => by rw [h1, heq, decide_eq_false c]
      rcases gm_asking heq k w t et (o + 1) h3 with ⟨g1, g2⟩ | ⟨i, q, g1, g2, g3⟩
      · refine .inl ⟨?_, by simp [Instr.findAsking, hk, g2]⟩
        intro q hq
        rcases List.mem_cons.1 hq with rfl | hq
        · exact fun h => c h.symm
        · exact g1 q hq
      · exact .inr ⟨i + 1, q, by simpa using g1, g2, by simp [Instr.findAsking, hk, g3]; omega⟩
theorem mkEs_pairs {κ : Type} (ka : κ → Value) (L : List (κ × Value)) : (mkEs ka L).toList.map (fun e => (e.key, e.val)) = L.map (fun p => (ka p.1, p.2)) := by
  unfold mkEs
  apply List.ext_getElem?
  intro i
  simp
  rfl
theorem mkEs_size {κ : Type} (ka : κ → Value) (L : List (κ × Value)) : (mkEs ka L).size = L.length := by simp [mkEs]
theorem mkEs_get {κ : Type} (ka : κ → Value) (L : List (κ × Value)) (i : Nat) (p : κ × Value) (h : L[i]? = some p) : (mkEs ka L)[i]? = some { key := ka p.1, val := p.2, born := i } := by simp [mkEs, h]
theorem mkEs_push {κ : Type} (ka : κ → Value) (L : List (κ × Value)) (k : κ) (v : Value) : (mkEs ka L).push { key := ka k, val := v, born := L.length } = mkEs ka (L ++ [(k, v)]) := by
  unfold mkEs
  simp [List.mapIdx_append]
theorem mkEs_val {κ : Type} (ka : κ → Value) (L : List (κ × Value)) (i : Nat) (k : κ) (u v : Value) (h : L[i]? = some (k, u)) : (mkEs ka L).modify i (fun e => { e with val := v }) = mkEs ka (L.set i (k, v)) := by
  apply Array.ext_getElem?
  intro j
  rw [Array.getElem?_modify]
  obtain ⟨hl, he⟩ := List.getElem?_eq_some_iff.1 h
  by_cases c : i = j
  · subst c
    simp [mkEs, h, hl, he]
  · simp [mkEs, c]
theorem mkEs_key {κ : Type} (ka : κ → Value) (L : List (κ × Value)) (i : Nat) (k : κ) (u : Value) (h : L[i]? = some (k, u)) : (mkEs ka L).modify i (fun e => { e with key := ka k }) = mkEs ka L := by
  apply Array.ext_getElem?
  intro j
  rw [Array.getElem?_modify]
  by_cases c : i = j
  · subst c
    simp [mkEs, h]
  · simp [c]
theorem mkEs_born {κ : Type} (ka : κ → Value) (L : List (κ × Value)) (i : Nat) (h : i < L.length) : (mkEs ka L).findIdx? (fun e => (e.born : Int) == (i : Int)) = some i := by
  rw [Array.findIdx?_eq_some_iff_findIdx_eq]
  refine ⟨by rw [mkEs_size]; exact h, ?_⟩
  rw [Array.findIdx_eq (by rw [mkEs_size]; exact h)]
  refine ⟨?_, fun j hj => ?_⟩
  · simp [mkEs]
  · simp [mkEs]
    omega
def ka3 (k : Int × Int × Int) : Value := .agg #[.int .u8 k.1, .int .u8 k.2.1, .int .u8 k.2.2]
theorem key3_ok {P : Program} (kt e : TypeId) (hu : P.underlying kt = some (.array 3 e)) (he : P.underlying e = some (.int .u8)) (hs : (P.info? e).map (fun i => (i.zero, i.size, i.bytes)) = some (some (.int .u8 0), 1, 1)) :
    KeyOk P kt ka3 := by
  obtain ⟨i0, hi, _, hsz, _⟩ := info_parts hs
  have ho : ∀ w, (sizeOf e).run P w = .ok 1 w := fun w => by simp [sizeOf, typeInfo, hi, hsz]
  have hp : ∀ (cs : Array Value) (off : Nat) (v : Value) w, cs[off]? = some v → (part e cs off).run P w = .ok v w := by
    intro cs off v w h
    simp [part, isAgg, run_underlying he, h]
  have heq : ∀ (a b : Int × Int × Int) w, (Op.equal kt (ka3 a) (ka3 b)).run P w = .ok (decide (a = b)) w := by
    intro a b w
    unfold ka3
    rw [Op.equal, show Op.maxDepth = 9998 + 2 from rfl, gm_eq3 w 9998 kt e hu he hs]
    congr 1
    obtain ⟨x, y, z⟩ := a
    obtain ⟨x', y', z'⟩ := b
    by_cases h1 : x = x' <;> by_cases h2 : y = y' <;> by_cases h3 : z = z' <;> simp [h1, h2, h3]
  refine ⟨fun k L w => ?_, fun k => ?_, fun b k w => ?_⟩
  · cases L with
    | nil => exact .inl ⟨by simp, by simp [Instr.findKey, run_underlying hu, mkEs, Instr.findNow]⟩
    | cons p t =>
      have hr : ∀ es : List MapEntry, es ≠ [] → (Instr.findKey kt (ka3 k) es).run P w = (Instr.findAsking kt (ka3 k) es).run P w := by
        intro es hne
        cases es with
        | nil => exact absurd rfl hne
        | cons e es => simp [Instr.findKey, run_underlying hu, Instr.findNow, Instr.sameNow]
      have hne : (mkEs ka3 (p :: t)).toList ≠ [] := by simp [mkEs]
      rw [hr _ hne]
      rcases gm_asking (P := P) heq k w (p :: t) _ 0 (mkEs_pairs ka3 (p :: t)) with ⟨g1, g2⟩ | ⟨i, q, g1, g2, g3⟩
      · exact .inl ⟨g1, g2⟩
      · exact .inr ⟨i, q, g1, g2, by simpa using g3⟩
  · show Instr.sameBits (9998 + 2) _ _ = true
    simp [ka3, Instr.sameBits]
  · show (Instr.checkKey b (9998 + 2) _ _).run P w = _
    rw [ka3, Instr.checkKey]
    have hc : ∀ (x : Int), (Instr.checkKey b (9998 + 1) e (.int .u8 x)).run P w = .ok () w := fun x => by
      rw [Instr.checkKey]
      simp [run_underlying he]
    simp only [Sem.run_bind, run_underlying hu, Result.andThen_ok, ho, Std.Legacy.Range.forIn_eq_forIn_range', Std.Legacy.Range.size, List.range']
    simp [hp, hc, ho]
theorem gm_get {P : Program} {w : World} {m : Nat} {es : Array MapEntry} {c : Nat} (h : w.heap[m]? = some (.map es c)) : (getObj m).run P w = .ok (.map es c) w := by simp [getObj, Sem.run, h]
theorem gm_set {P : Program} {w : World} {m : Nat} {es : Array MapEntry} {c : Nat} (h : w.heap[m]? = some (.map es c)) (o : Obj) : (setObj m o).run P w = .ok () { w with heap := w.heap.setIfInBounds m o } := by simp [setObj, Sem.run, h]
def gval {κ : Type} [DecidableEq κ] {β : Type} (g : κ → List β) (k : κ) (v : List β) : κ → List β := fun k' => if k' = k then v else g k'
/-- block m is a map whose elements are rows of numbers (type et) of the call's own, from base on; at key k it holds g k -/
def GM {κ : Type} (w : World) (ka : κ → Value) (m et base : Nat) (g : κ → List Int) : Prop :=
  ∃ L : List (κ × Value), w.heap[m]? = some (.map (mkEs ka L) L.length) ∧ (L.map Prod.fst).Nodup ∧ (∀ p, p ∈ L → w.ownsRow base et 1 p.2 (g p.1).length (nums .i64 (g p.1))) ∧ (∀ k, (∀ p, p ∈ L → p.1 ≠ k) → g k = []) ∧ L.Pairwise (fun p q => p.2.ownBlock = none ∨ p.2.ownBlock ≠ q.2.ownBlock)
structure SameTy (w w1 : World) (m et : Nat) : Prop where
  map : ∀ o : Obj, w.heap[m]? = some o → w1.heap[m]? = some o
  row : ∀ (b : Nat) (cs : Array Value), w.heap[b]? = some (Obj.cells cs et (0, 0)) → w1.heap[b]? = some (Obj.cells cs et (0, 0))
theorem SameTy.refl (w : World) (m et : Nat) : SameTy w w m et := ⟨fun _ h => h, fun _ _ h => h⟩
theorem SameTy.trans {a b c : World} {m et : Nat} (h : SameTy a b m et) (k : SameTy b c m et) : SameTy a c m et := ⟨fun o x => k.map o (h.map o x), fun b cs x => k.row b cs (h.row b cs x)⟩
theorem SameTy.of_grown {w w1 : World} {m et : Nat} {row : Option Nat} (hg : w.grownBy w1 row) (hm : some m ≠ row) (hr : ∀ b, row = some b → ∀ cs, w.heap[b]? ≠ some (.cells cs et (0, 0))) : SameTy w w1 m et :=
  ⟨fun o h => (hg.block m (Array.getElem?_eq_some_iff.1 h).1 hm).trans h, fun b cs h => (hg.block b (Array.getElem?_eq_some_iff.1 h).1 (fun e => hr b e.symm cs h)).trans h⟩
theorem GM.same {κ : Type} {w w1 : World} {ka : κ → Value} {m et base : Nat} {g : κ → List Int} (h : GM w ka m et base g) (hs : SameTy w w1 m et) : GM w1 ka m et base g := by
  obtain ⟨L, h1, h2, h3, h4, h5⟩ := h
  refine ⟨L, hs.map _ h1, h2, fun p hp => ?_, h4, h5⟩
  exact own_move (h3 p hp) (fun k hk => by
    obtain ⟨cs, hc⟩ := own_typed (h3 p hp) k hk
    rw [hc]; exact hs.row k cs hc)
theorem nodup_get {κ : Type} {L : List (κ × Value)} (h : (L.map Prod.fst).Nodup) {i j : Nat} {p q : κ × Value} (hi : L[i]? = some p) (hj : L[j]? = some q) (he : p.1 = q.1) : i = j := by
  obtain ⟨hi1, hi2⟩ := List.getElem?_eq_some_iff.1 hi
  obtain ⟨hj1, hj2⟩ := List.getElem?_eq_some_iff.1 hj
  have h1 : (L.map Prod.fst)[i]'(by simpa using hi1) = (L.map Prod.fst)[j]'(by simpa using hj1) := by simp [hi2, hj2, he]
  rcases Nat.lt_trichotomy i j with c | c | c
  · exact absurd h1 ((List.pairwise_iff_getElem.1 h) i j (by simpa using hi1) (by simpa using hj1) c)
  · exact c
  · exact absurd h1.symm ((List.pairwise_iff_getElem.1 h) j i (by simpa using hj1) (by simpa using hi1) c)
theorem GM.lookup {κ : Type} [DecidableEq κ] {P : Program} {kt mt E : TypeId} {w : World} {ka : κ → Value} {m et base : Nat} {g : κ → List Int} (h : GM w ka m et base g) (K : KeyOk P kt ka) (ht : P.underlying mt = some (.map kt E)) (hz : ∀ w, (zeroValue E).run P w = .ok (.slice none 0 0) w) (k : κ) :
    ∃ v, (Instr.lookup mt (.map (some m)) (ka k) false).run P w = .ok v w ∧ w.ownsRow base et 1 v (g k).length (nums .i64 (g k)) := by
  obtain ⟨L, h1, h2, h3, h4, h5⟩ := h
  rcases K.find k L w with ⟨g1, g2⟩ | ⟨i, p, g1, g2, g3⟩
  · refine ⟨.slice none 0 0, ?_, ?_⟩
    · simp only [Instr.lookup, Sem.run_bind, run_underlying ht, Result.andThen_ok]
      simp [gm_get h1, gm_set h1, K.check, g2, hz]
    · rw [h4 k g1]
      exact World.ownsRow_nil _ _ _ _
  · refine ⟨p.2, ?_, ?_⟩
    · simp only [Instr.lookup, Sem.run_bind, run_underlying ht, Result.andThen_ok]
      simp [gm_get h1, gm_set h1, K.check, g3]
    · rw [← g2]
      exact h3 p (List.mem_of_getElem? g1)
theorem setObj_same (w : World) (m : Nat) (o : Obj) (h : w.heap[m]? = some o) : ({ w with heap := w.heap.setIfInBounds m o } : World) = w := by
  have : w.heap.setIfInBounds m o = w.heap := by
    apply Array.ext_getElem?
    intro j
    rw [Array.getElem?_setIfInBounds]
    split
    · rename_i e
      subst e
      split
      · exact h.symm
      · rename_i hn
        rw [Array.getElem?_eq_none (by omega)]
    · rfl
  rw [this]
/-- behind 'm[k] (for an append)': the entry stands at place i -/
def GMAt {κ : Type} (w : World) (ka : κ → Value) (m et base : Nat) (g : κ → List Int) (i : Nat) (k : κ) (v : Value) : Prop :=
  ∃ L : List (κ × Value), w.heap[m]? = some (.map (mkEs ka L) L.length) ∧ (L.map Prod.fst).Nodup ∧ (∀ p, p ∈ L → w.ownsRow base et 1 p.2 (g p.1).length (nums .i64 (g p.1))) ∧ (∀ k, (∀ p, p ∈ L → p.1 ≠ k) → g k = []) ∧ L.Pairwise (fun p q => p.2.ownBlock = none ∨ p.2.ownBlock ≠ q.2.ownBlock) ∧ L[i]? = some (k, v)
theorem GM.entry {κ : Type} [DecidableEq κ] {P : Program} {kt mt E : TypeId} {w : World} {ka : κ → Value} {m et base : Nat} {g : κ → List Int} (h : GM w ka m et base g) (K : KeyOk P kt ka) (ht : P.underlying mt = some (.map kt E)) (hz : ∀ w, (zeroValue E).run P w = .ok (.slice none 0 0) w) (k : κ) :
    ∃ v i w1, (Instr.mapEntry mt (.map (some m)) (ka k)).run P w = .ok (.tuple #[v, .int .i64 (i : Nat)]) w1 ∧ GMAt w1 ka m et base g i k v ∧ w.grownBy w1 (some m) ∧ w1.heap.size = w.heap.size := by
  obtain ⟨L, h1, h2, h3, h4, h5⟩ := h
  have hlt := (Array.getElem?_eq_some_iff.1 h1).1
  rcases K.find k L w with ⟨g1, g2⟩ | ⟨i, p, g1, g2, g3⟩
  · refine ⟨.slice none 0 0, L.length, { w with heap := w.heap.setIfInBounds m (.map (mkEs ka (L ++ [(k, .slice none 0 0)])) (L ++ [(k, (.slice none 0 0 : Value))]).length) }, ?_, ?_, ?_, by simp⟩
    · simp only [Instr.mapEntry, Sem.run_bind, run_underlying ht, Result.andThen_ok]
      simp [gm_get h1, gm_set h1, K.check, g2, hz, goInt, mkEs_push]
    · have hb : ∀ b, b ≠ m → (w.heap.setIfInBounds m (.map (mkEs ka (L ++ [(k, .slice none 0 0)])) (L ++ [(k, (.slice none 0 0 : Value))]).length))[b]? = w.heap[b]? := fun b hb => by rw [Array.getElem?_setIfInBounds]; simp [Ne.symm hb]
      refine ⟨L ++ [(k, .slice none 0 0)], by simp [Array.getElem?_setIfInBounds, hlt], ?_, ?_, ?_, ?_, by simp⟩
      · rw [List.map_append, List.nodup_append]
        refine ⟨h2, by simp, fun a ha b hb => ?_⟩
        obtain ⟨p, hp, rfl⟩ := List.mem_map.1 ha
        simp at hb
        subst hb
        exact g1 p hp
      · intro p hp
        rcases List.mem_append.1 hp with hp | hp
        · exact own_move (h3 p hp) (fun b hbk => hb b (fun e => by
            obtain ⟨cs, hc⟩ := own_typed (h3 p hp) b hbk
            rw [e, h1] at hc
            cases hc))
        · simp at hp
          subst hp
          rw [h4 k g1]
          exact World.ownsRow_nil _ _ _ _
      · intro k' hk'
        exact h4 k' (fun p hp => hk' p (List.mem_append_left _ hp))
      · rw [List.pairwise_append]
        refine ⟨h5, by simp, fun p _ q hq => ?_⟩
        simp at hq
        subst hq
        cases p.2.ownBlock <;> simp [Value.ownBlock]
    · exact ⟨rfl, rfl, rfl, by simp, fun b _ hne => by show (w.heap.setIfInBounds _ _)[b]? = _; rw [Array.getElem?_setIfInBounds]; simp; intro e; exact absurd (by rw [e]) hne⟩
  · obtain ⟨k0, v⟩ := p
    simp only at g2
    subst g2
    refine ⟨v, i, w, ?_, ⟨L, h1, h2, h3, h4, h5, g1⟩, ⟨rfl, rfl, rfl, Nat.le_refl _, fun _ _ _ => rfl⟩, rfl⟩
    have hk : Instr.keyThatStays (ka k0) (ka k0) = (pure (ka k0) : Sem Value) := by simp [Instr.keyThatStays, K.same]
    simp only [Instr.mapEntry, Sem.run_bind, run_underlying ht, Result.andThen_ok]
    simp [gm_get h1, gm_set h1, K.check, g3, goInt, mkEs_get ka L i _ g1, hk, mkEs_key ka L i k0 v g1]
    exact setObj_same w m _ h1
theorem GMAt.row {κ : Type} {w : World} {ka : κ → Value} {m et base i : Nat} {g : κ → List Int} {k : κ} {v : Value} (h : GMAt w ka m et base g i k v) : w.ownsRow base et 1 v (g k).length (nums .i64 (g k)) := by
  obtain ⟨L, h1, h2, h3, h4, h5, h6⟩ := h
  exact h3 (k, v) (List.mem_of_getElem? h6)
theorem GMAt.store {κ : Type} [DecidableEq κ] {P : Program} {mt : TypeId} {w w1 : World} {ka : κ → Value} {m et base i : Nat} {g : κ → List Int} {k : κ} {v v' : Value} {zs : List Int} (h : GMAt w ka m et base g i k v) (hg : w.grownBy w1 v.ownBlock) (ho : w1.ownsRow base et 1 v' zs.length (nums .i64 zs)) (hat : v'.ownBlock = v.ownBlock ∨ ∃ b, v'.ownBlock = some b ∧ w.heap.size ≤ b) :
    ∃ w2, (Instr.entryStore mt (.map (some m)) (.int .i64 (i : Nat)) v').run P w1 = .ok () w2 ∧ GM w2 ka m et base (gval g k zs) ∧ w1.grownBy w2 (some m) := by
  obtain ⟨L, h1, h2, h3, h4, h5, h6⟩ := h
  have hlt := (Array.getElem?_eq_some_iff.1 h1).1
  have hil := (List.getElem?_eq_some_iff.1 h6).1
  have hrow := h3 (k, v) (List.mem_of_getElem? h6)
  have hmv : some m ≠ v.ownBlock := fun e => by
    obtain ⟨cs, hc⟩ := own_typed hrow m e.symm
    rw [h1] at hc
    cases hc
  have h1' : w1.heap[m]? = some (.map (mkEs ka L) L.length) := (hg.block m hlt hmv).trans h1
  have hlt1 := (Array.getElem?_eq_some_iff.1 h1').1
  have hmv' : some m ≠ v'.ownBlock := fun e => by
    obtain ⟨cs, hc⟩ := own_typed ho m e.symm
    rw [h1'] at hc
    cases hc
  have hlen : (L.set i (k, v')).length = L.length := by simp
  have hb : ∀ b, b ≠ m → (w1.heap.setIfInBounds m (.map (mkEs ka (L.set i (k, v'))) L.length))[b]? = w1.heap[b]? := fun b hb => by rw [Array.getElem?_setIfInBounds]; simp [Ne.symm hb]
  have far : ∀ j q, L[j]? = some q → j ≠ i → q.2.ownBlock = none ∨ (q.2.ownBlock ≠ v.ownBlock ∧ q.2.ownBlock ≠ v'.ownBlock) := by
    intro j q hj hne
    cases hq : q.2.ownBlock with
    | none => exact .inl rfl
    | some b =>
      have h7 : some b ≠ v.ownBlock := by
        have hp := List.pairwise_iff_getElem.1 h5
        obtain ⟨hjl, hje⟩ := List.getElem?_eq_some_iff.1 hj
        obtain ⟨_, hie⟩ := List.getElem?_eq_some_iff.1 h6
        rcases Nat.lt_or_gt_of_ne hne with c | c
        · rcases hp j i hjl hil c with e | e
          · rw [hje, hq] at e; cases e
          · rw [hje, hq, hie] at e; exact e
        · rcases hp i j hil hjl c with e | e
          · rw [hie] at e; rw [e]; simp
          · rw [hje, hq, hie] at e; exact fun x => e x.symm
      refine .inr ⟨h7, ?_⟩
      rcases hat with e | ⟨b', e, hb'⟩
      · rw [e]; exact h7
      · rw [e]
        have := own_lt (h3 q (List.mem_of_getElem? hj)) b hq
        intro x
        cases x
        omega
  refine ⟨{ w1 with heap := w1.heap.setIfInBounds m (.map (mkEs ka (L.set i (k, v'))) L.length) }, ?_, ⟨L.set i (k, v'), by simp [Array.getElem?_setIfInBounds, hlt1], ?_, ?_, ?_, ?_⟩, ⟨rfl, rfl, rfl, by simp, fun b _ hne => hb b (fun e => hne (by rw [e]))⟩⟩
  · simp [Instr.entryStore, gm_get h1', gm_set h1', asInt, asIntOf, mkEs_born ka L i hil, mkEs_val ka L i k v v' h6]
  · have : (L.set i (k, v')).map Prod.fst = L.map Prod.fst := by
      apply List.ext_getElem?
      intro j
      simp only [List.getElem?_map, List.getElem?_set]
      by_cases c : i = j
      · subst c
        obtain ⟨_, he⟩ := List.getElem?_eq_some_iff.1 h6
        simp [h6, hil, he]
      · simp [c]
    rw [this]
    exact h2
  · intro p hp
    obtain ⟨j, hj⟩ := List.getElem?_of_mem hp
    rw [List.getElem?_set] at hj
    by_cases c : i = j
    · subst c
      rw [if_pos rfl, if_pos hil] at hj
      cases hj
      show World.ownsRow _ base et 1 v' (gval g k zs k).length (nums .i64 (gval g k zs k))
      rw [show gval g k zs k = zs by simp [gval]]
      exact own_move ho (fun b hbk => hb b (fun e => hmv' (by rw [hbk, e])))
    · rw [if_neg c] at hj
      have hne : p.1 ≠ k := fun e => c (nodup_get h2 h6 hj e.symm)
      rw [show gval g k zs p.1 = g p.1 by simp [gval, hne]]
      have hpo := h3 p (List.mem_of_getElem? hj)
      have h8 := far j p hj (Ne.symm c)
      exact own_move hpo (fun b hbk => by
        have hbm : b ≠ m := fun e => by
          obtain ⟨cs, hc⟩ := own_typed hpo b hbk
          rw [e, h1] at hc
          cases hc
        refine (hb b hbm).trans (hg.block b (own_lt hpo b hbk) ?_)
        rcases h8 with e | e
        · rw [e] at hbk; cases hbk
        · rw [hbk] at e; exact e.1)
  · intro k' hk'
    have hk0 : k' ≠ k := fun e => hk' (k, v') (List.mem_of_getElem? (i := i) (by simp [hil])) e.symm
    rw [show gval g k zs k' = g k' by simp [gval, hk0]]
    refine h4 k' (fun p hp => ?_)
    obtain ⟨j, hj⟩ := List.getElem?_of_mem hp
    by_cases c : i = j
    · subst c
      rw [h6] at hj
      cases hj
      exact Ne.symm hk0
    · exact hk' p (List.mem_of_getElem? (i := j) (by rw [List.getElem?_set, if_neg c]; exact hj))
  · rw [List.pairwise_iff_getElem]
    intro a b ha hb' hab
    have ha' : a < L.length := by simpa using ha
    have hb2 : b < L.length := by simpa using hb'
    rw [List.getElem_set, List.getElem_set]
    have hp := List.pairwise_iff_getElem.1 h5 a b ha' hb2 hab
    by_cases ca : i = a
    · subst ca
      rw [if_pos rfl, if_neg (by omega)]
      rcases far b L[b] (List.getElem?_eq_getElem hb2) (by omega) with e | e
      · cases hv : v'.ownBlock with
        | none => exact .inl rfl
        | some x => exact .inr (by rw [e]; simp)
      · exact .inr (Ne.symm e.2)
    · rw [if_neg ca]
      by_cases cb : i = b
      · subst cb
        rw [if_pos rfl]
        rcases far a L[a] (List.getElem?_eq_getElem ha') (by omega) with e | e
        · exact .inl e
        · exact .inr e.2
      · rw [if_neg cb]
        exact hp
theorem hz_info73 : (Try.prog.info? 73).map (fun i => (i.zero, i.size, i.bytes)) = some (some (.agg #[.int .u8 0, .int .u8 0, .int .u8 0]), 3, 3) := by kernel_rfl
theorem arr3 (A : Option Addr) (c : Nat) (w : World) : (Instr.arrayAt 73 (.slice A 3 c)).run Try.prog w = .ok (.pointer A) w := by
  simp only [Instr.arrayAt, Sem.run_bind, run_underlying Try.underlying73]
  simp
theorem add_add_ (a : Addr) (i j : Nat) (hj : j ≠ 0) : (a.add i).add j = ⟨a.block, a.off + (i + j), none⟩ := by
  simp only [Addr.add]
  by_cases c : i = 0 <;> simp_all <;> omega
theorem add_more (ad : Addr) (n j : Nat) (hj : j ≠ 0) : ad.add (n + j) = ⟨(ad.add n).block, (ad.add n).off + j, none⟩ := by
  simp only [Addr.add]
  by_cases c : n = 0 <;> simp_all <;> omega
section
variable {κ : Type} [DecidableEq κ] {P : Program} {w : World} {ops : Array Oper} {rest : List Oper} {o : Oper} {a : Act} {Q : Exit → Act → World → Prop}
theorem wpList_gm_entry (hgd : o.guard = none) (mo xo : Operand) (mt kt E : TypeId) (hop : o.op = .mapEntry mt mo xo) {ka : κ → Value} {m et base : Nat} {g : κ → List Int} (K : KeyOk P kt ka) (ht : P.underlying mt = some (.map kt E)) (hz : ∀ w, (zeroValue E).run P w = .ok (.slice none 0 0) w)
    (hm : a.eval mo = .map (some m)) (hG : GM w ka m et base g) (k : κ) (hx : a.eval xo = ka k)
    (h : ∀ v i w1, GMAt w1 ka m et base g i k v → w.grownBy w1 (some m) → w1.heap.size = w.heap.size → wpList P ops Q rest (a.put o.dst (.tuple #[v, .int .i64 (i : Nat)])) w1) : wpList P ops Q (o :: rest) a w := by
  obtain ⟨v, i, w1, hrun, h1, h2, h3⟩ := hG.entry K ht hz k
  refine wpList_plain hgd fun K' hK' => ?_
  unfold Oper.wp
  simp [execOp, hop, hm, hx, hrun, Result.andThen]
  exact hK' _ _ (h v i w1 h1 h2 h3)
theorem wpList_gm_store (hgd : o.guard = none) (mo so xo : Operand) (mt : TypeId) (hop : o.op = .entryStore mt mo so xo) {ka : κ → Value} {m et base i : Nat} {g : κ → List Int} {w0 : World} {k : κ} {v v' : Value} {zs : List Int}
    (hm : a.eval mo = .map (some m)) (hs : a.eval so = .int .i64 (i : Nat)) (hx : a.eval xo = v') (hG : GMAt w0 ka m et base g i k v) (hg : w0.grownBy w v.ownBlock) (ho : w.ownsRow base et 1 v' zs.length (nums .i64 zs)) (hat : v'.ownBlock = v.ownBlock ∨ ∃ b, v'.ownBlock = some b ∧ w0.heap.size ≤ b)
    (h : ∀ w2, GM w2 ka m et base (gval g k zs) → w.grownBy w2 (some m) → wpList P ops Q rest (a.put o.dst undef) w2) : wpList P ops Q (o :: rest) a w := by
  obtain ⟨w2, hrun, h1, h2⟩ := hG.store (P := P) (mt := mt) hg ho hat
  refine wpList_plain hgd fun K' hK' => ?_
  unfold Oper.wp
  simp [execOp, hop, hm, hs, hx, hrun, Result.andThen]
  exact hK' _ _ (h w2 h1 h2)
theorem wpList_gm_lookup (hgd : o.guard = none) (mo xo : Operand) (mt kt E : TypeId) (hop : o.op = .lookup mt mo xo false) {ka : κ → Value} {m et base : Nat} {g : κ → List Int} (K : KeyOk P kt ka) (ht : P.underlying mt = some (.map kt E)) (hz : ∀ w, (zeroValue E).run P w = .ok (.slice none 0 0) w)
    (hm : a.eval mo = .map (some m)) (hG : GM w ka m et base g) (k : κ) (hx : a.eval xo = ka k)
    (h : ∀ v, w.ownsRow base et 1 v (g k).length (nums .i64 (g k)) → wpList P ops Q rest (a.put o.dst v) w) : wpList P ops Q (o :: rest) a w := by
  obtain ⟨v, hrun, h1⟩ := hG.lookup K ht hz k
  refine wpList_plain hgd fun K' hK' => ?_
  unfold Oper.wp
  simp [execOp, hop, hm, hx, hrun, Result.andThen]
  exact hK' _ _ (h v h1)
end
/-- what a note leaves as it was: below base, and all rows of other types than et -/
structure NoteKept (w w' : World) (m et base : Nat) : Prop where
  os : w'.os = w.os
  tape : w'.tape = w.tape
  output : w'.output = w.output
  size : w.heap.size ≤ w'.heap.size
  block : ∀ b, b < w.heap.size → b ≠ m → (b < base ∨ ∀ cs, w.heap[b]? ≠ some (Obj.cells cs et (0, 0))) → w'.heap[b]? = w.heap[b]?
theorem NoteKept.refl (w : World) (m et base : Nat) : NoteKept w w m et base := ⟨rfl, rfl, rfl, Nat.le_refl _, fun _ _ _ _ => rfl⟩
theorem NoteKept.below {w w' : World} {m et base B : Nat} (h : NoteKept w w' m et base) (h1 : B ≤ m) (h2 : B ≤ base) (h3 : B ≤ w.heap.size) : Below B w w' := ⟨h.os, h.tape, h.output, h.size, fun k hk => h.block k (by omega) (by omega) (.inl (by omega))⟩
def key3 (l : List Int) (n : Int) : Int × Int × Int := (rd l n, rd l (n + 1), rd l (n + 2))
theorem alloc2_last (w : World) (o1 o2 : Obj) : ((w.alloc o1).alloc o2).heap[w.heap.size + 1]? = some o2 := by
  have e : (w.alloc o1).heap.size = w.heap.size + 1 := by simp
  rw [← e]
  show ((w.alloc o1).heap.push o2)[(w.alloc o1).heap.size]? = some o2
  exact Array.getElem?_push_size
theorem one_cell_kept {w w1 : World} {m b : Nat} {x : Value} {t : TypeId} (hg : w.grownBy w1 (some m)) (hb : w.heap[b]? = some (Obj.cells #[x] t (0, 0))) (hne : b ≠ m) : ∀ j u, [x][j]? = some u → w1.cell? ((⟨b, 0, none⟩ : Addr).add j) = some u := by
  intro j u hj
  obtain rfl : j = 0 := by
    have := (List.getElem?_eq_some_iff.1 hj).1
    simp at this
    exact this
  simp at hj
  subst hj
  have h1 : w.cell? ⟨b, 0, none⟩ = some x := by rw [blk_cell hb]; rfl
  exact hg.cell h1 (by simpa [Addr.add] using hne)
theorem hz_zero33 (w : World) : (zeroValue 33).run Try.prog w = .ok (.slice none 0 0) w := by kernel_rfl
theorem hz_info3 : (Try.prog.info? 3).map (fun i => (i.zero, i.size, i.bytes)) = some (some (.int .i64 0), 1, 8) := by kernel_rfl
theorem keyok73 : KeyOk Try.prog 73 ka3 := key3_ok 73 5 Try.underlying73 Try.underlying5 info5
set_option maxHeartbeats 4000000 in
set_option maxRecDepth 100000 in
theorem note_calls (A : Option Addr) (c : Nat) (l : List Int) (n : Nat) (m base : Nat) (g : Int × Int × Int → List Int) (w : World)
    (hC : Kd.C (Kd.int .u8) w A l.length l) (hc : l.length ≤ c) (hl : l.length ≤ 4096) (hn : n + 3 ≤ l.length) (hG : GM w ka3 m 3 base g) (hb : base ≤ w.heap.size) (hgl : (g (key3 l n)).length ≤ 4096) :
    Calls Try.prog 32 #[.map (some m), .slice A l.length c, .int .i64 n] w fun e w' => e = .returned (.tuple #[]) ∧ GM w' ka3 m 3 base (gval g (key3 l n) (g (key3 l n) ++ [(n : Int)])) ∧ NoteKept w w' m 3 base := by
  obtain ⟨ad, rfl, h0⟩ := Kd.at_int hC (n : Int) (by omega) (by omega)
  obtain ⟨ad1, e1, h1⟩ := Kd.at_int hC ((n : Int) + 1) (by omega) (by omega)
  obtain ⟨ad2, e2, h2⟩ := Kd.at_int hC ((n : Int) + 2) (by omega) (by omega)
  cases e1
  cases e2
  rw [show ((n : Int) + 1).toNat = n + 1 by omega, add_more ad n 1 (by decide)] at h1
  rw [show ((n : Int) + 2).toNat = n + 2 by omega, add_more ad n 2 (by decide)] at h2
  rw [Int.toNat_natCast] at h0
  obtain ⟨key, hkey⟩ : ∃ key, key = key3 l n := ⟨_, rfl⟩
  have hk1 : rd l n = key.1 := by rw [hkey]; rfl
  have hk2 : rd l (n + 1) = key.2.1 := by rw [hkey]; rfl
  have hk3 : rd l (n + 2) = key.2.2 := by rw [hkey]; rfl
  rw [hk1] at h0
  rw [hk2] at h1
  rw [hk3] at h2
  rw [← hkey] at hgl ⊢
  clear hk1 hk2 hk3
  have H := Aside0.mk hC
  have HK := Aside0.mk hkey
  clear hC hkey
  have HG := Aside0.mk hG
  clear hG
  have hml : m < w.heap.size := by
    obtain ⟨L, hL, _⟩ := HG.out
    exact (Array.getElem?_eq_some_iff.1 hL).1
  have harr := arr3
  obtain ⟨i0, hi, hz0, hz1, hz2⟩ := info_parts hz_info3
  go_enter Try.func32, Try.ntmps32
  go_wp2_with (first
    | (refine wpList_gm_entry rfl _ _ 68 73 33 rfl keyok73 Try.underlying68 hz_zero33 rfl (HG.out.same (SameTy.of_grown ((World.grownBy_alloc _ _ none).trans (World.grownBy_alloc _ _ none)) (by simp) (by simp))) key rfl ?_; intro v i w1 hat hg1 hsz1; have HAT := Aside0.mk hat; have HG1 := Aside0.mk hg1; have HS1 := Aside0.mk hsz1; clear hat hg1 hsz1)
    | (at_builtin; refine wpList_append_own_at _ rfl _ _ 33 rfl base 3 i0 (.int .i64 0) 1 8 Try.underlying33 hi hz0 hz1 hz2 rfl (by decide) _ _ _ rfl HAT.out.row ⟨w.heap.size + 1, 0, none⟩ 1 1 [.int .i64 n] rfl rfl ?c1 (ints_oneCell .i64 [(n : Int)]) ?c3 ?c4 ?c2 ?_; (case c3 => unfold maxLen; omega); (case c4 => omega); (case c1 => exact one_cell_kept (t := 3) HG1.out (alloc2_last _ _ _) (by omega)); (case c2 => have := HS1.out; simp at this; omega); intro v' w2 hown' hgrow hnil hloc; have HO := Aside0.mk hown'; have HGR := Aside0.mk hgrow; have HL := Aside0.mk hloc; clear hown' hgrow hnil hloc)
    | (refine wpList_gm_store rfl _ _ _ 68 rfl rfl rfl rfl HAT.out HGR.out (zs := g key ++ [(n : Int)]) (by rw [nums_append, List.length_append]; exact HO.out) (HL.out.imp id (fun h => ⟨_, h, Nat.le_refl _⟩)) ?_; intro w3 hG3 hg3; have HG3 := Aside0.mk hG3; have HGR3 := Aside0.mk hg3; clear hG3 hg3))
  go_end0
  refine ⟨rfl, HG3.out, ?_⟩
  have s1 := HG1.out.size
  have s2 := HGR.out.size
  have s3 := HGR3.out.size
  simp at s1
  refine ⟨(HGR3.out.os.trans HGR.out.os).trans HG1.out.os, (HGR3.out.tape.trans HGR.out.tape).trans HG1.out.tape, (HGR3.out.output.trans HGR.out.output).trans HG1.out.output, by omega, ?_⟩
  intro b hb1 hb2 hb3
  have hrow := HAT.out.row
  have a1 : w1.heap[b]? = w.heap[b]? := (HG1.out.block b (by simp; omega) (by simp [hb2])).trans ((Below.heap_alloc _ _ _ (by simp; omega)).trans (Below.heap_alloc _ _ _ hb1))
  have a2 : w2.heap[b]? = w1.heap[b]? := HGR.out.block b (by omega) (fun e => by
    obtain ⟨cs, hcs⟩ := own_typed hrow b e.symm
    have := own_base hrow b e.symm
    rcases hb3 with h | h
    · omega
    · exact h cs (a1 ▸ hcs))
  exact (HGR3.out.block b (by omega) (by simp [hb2])).trans (a2.trans a1)

set_option maxRecDepth 100000 in
theorem note_skips (A : Option Addr) (c : Nat) (l : List Int) (n : Nat) (m : Nat) (w : World) (hl : l.length ≤ 4096) (hn1 : n ≤ 5000) (hn : ¬ n + 3 ≤ l.length) :
    Calls Try.prog 32 #[.map (some m), .slice A l.length c, .int .i64 n] w fun e w' => e = .returned (.tuple #[]) ∧ w' = w := by
  have hn2 : decide ((n : Int) + 3 ≤ (l.length : Int)) = false := decide_eq_false (by omega)
  clear hn
  go_enter Try.func32, Try.ntmps32
  go_wp2
  go_end0
  exact ⟨rfl, rfl⟩
def lzRun (l : List Int) (p a : Nat) : Nat → Nat → Nat
  | 0, n => n
  | f + 1, n => if a + n < l.length ∧ rd l ((p + n : Nat) : Int) = rd l ((a + n : Nat) : Int) then lzRun l p a f (n + 1) else n
theorem wrap64_sm {x : Int} (h0 : -9223372036854775808 ≤ x) (h1 : x ≤ 9223372036854775807) : wrap64 x = x := by unfold wrap64; omega
theorem run_l0 (l : List Int) (p a : Nat) (hpa : p < a) (hl : l.length ≤ 4096) : ∀ (f n k : Nat), f + n = 200 → a + n ≤ 4500 → f < k → lz_run.l0 k l (p : Int) (a : Int) (n : Int) = some ((lzRun l p a f n : Nat) : Int) := by
  intro f
  induction f with
  | zero =>
    intro n k h1 h2 hk
    obtain ⟨k, rfl⟩ : ∃ q, k = q + 1 := ⟨k - 1, by omega⟩
    rw [lz_run.l0, if_neg (by omega)]
    rfl
  | succ f ih =>
    intro n k h1 h2 hk
    obtain ⟨k, rfl⟩ : ∃ q, k = q + 1 := ⟨k - 1, by omega⟩
    rw [lz_run.l0, if_pos (by omega), wrap64_sm (x := (a : Int) + n) (by omega) (by omega), wrap64_sm (x := (p : Int) + n) (by omega) (by omega), wrap64_sm (x := (n : Int) + 1) (by omega) (by omega), lzRun]
    by_cases c : a + n < l.length
    · rw [if_pos (by omega), if_pos (by omega), if_pos (by omega), if_pos (by omega), show (p : Int) + n = ((p + n : Nat) : Int) by omega, show (a : Int) + n = ((a + n : Nat) : Int) by omega]
      by_cases c2 : rd l ((p + n : Nat) : Int) = rd l ((a + n : Nat) : Int)
      · rw [if_pos c2, if_pos ⟨c, c2⟩, show (n : Int) + 1 = ((n + 1 : Nat) : Int) by omega]
        exact ih (n + 1) k (by omega) (by omega) (by omega)
      · rw [if_neg c2, if_neg (fun h => c2 h.2)]
    · rw [if_neg (by omega), if_neg (fun h => c h.1)]
theorem run_eq (l : List Int) (p a : Nat) (hpa : p < a) (ha : a ≤ 4096) (hl : l.length ≤ 4096) (k : Nat) (hk : 210 ≤ k) : lz_run.f k l (p : Int) (a : Int) = some ((lzRun l p a 200 0 : Nat) : Int) := by
  unfold lz_run.f
  exact run_l0 l p a hpa hl 200 0 k (by omega) (by omega) (by omega)
theorem lzRun_le (l : List Int) (p a : Nat) : ∀ f n, lzRun l p a f n ≤ n + f
  | 0, n => by simp [lzRun]
  | f + 1, n => by
    rw [lzRun]
    split
    · have := lzRun_le l p a f (n + 1); omega
    · omega
/-- the best of the places ps (the last one first), behind t: how far back, how long -/
def bestGo (l : List Int) (a : Nat) : List Int → Int × Int → Int × Int
  | [], t => t
  | p :: ps, t => if (a : Int) - p ≤ 255 then bestGo l a ps (if ((lzRun l p.toNat a 200 0 : Nat) : Int) > t.2 then ((a : Int) - p, ((lzRun l p.toNat a 200 0 : Nat) : Int)) else t) else t
theorem own_before {w : World} {cs : Array Value} {t base e s n : Nat} {v : Value} {xs : List Value} (h : (w.alloc (.cells cs t)).ownsRow base e s v n xs) (hne : e ≠ t) : w.ownsRow base e s v n xs :=
  own_move h (fun k hk => by
    obtain ⟨ds, hd⟩ := own_typed h k hk
    have hlt := own_lt h k hk
    have e1 : (w.alloc (.cells cs t)).heap.size = w.heap.size + 1 := by simp
    by_cases c : k = w.heap.size
    · subst c
      have : (w.alloc (.cells cs t)).heap[w.heap.size]? = some (Obj.cells cs t (0, 0)) := Array.getElem?_push_size
      rw [this] at hd
      injection hd with hd
      injection hd with _ hd
      exact absurd hd.symm hne
    · exact (Below.heap_alloc w _ k (by omega)).symm)
theorem best_end (l : List Int) (n : Nat) (w wr : World) (zs : List Int) (t1 t2 : Int) (A : Act) (E : Int × Int) (HH : wr.heap[w.heap.size]? = some (Obj.cells #[.int .u8 0, .int .i64 t1, .int .i64 t2] 46 (0, 0))) (HB : Below w.heap.size w wr) (hE : (t1, t2) = E)
    (hD : A.defers = []) (hA : A.tmps[6]?.getD undef = .pointer (some ⟨w.heap.size, 0, none⟩)) :
    bodyPost Try.prog Try.f31 (fun e w' => e = Ending.returned (.agg #[.int .u8 0, .int .i64 E.1, .int .i64 E.2]) ∧ Below w.heap.size w w') Exit.ret A (((wr.setCell ⟨w.heap.size, 0, none⟩ (.int .u8 0)).setCell ⟨w.heap.size, 1, none⟩ (.int .i64 t1)).setCell ⟨w.heap.size, 2, none⟩ (.int .i64 t2)) := by
  have HW := blk_set (blk_set (blk_set HH 0 (.int .u8 0)) 1 (.int .i64 t1)) 2 (.int .i64 t2)
  have HBW := ((HB.setCell (p := ⟨w.heap.size, 0, none⟩) (Nat.le_refl _) (.int .u8 0)).setCell (p := ⟨w.heap.size, 1, none⟩) (Nat.le_refl _) (.int .i64 t1)).setCell (p := ⟨w.heap.size, 2, none⟩) (Nat.le_refl _) (.int .i64 t2)
  simp only [List.setIfInBounds_toArray, List.set_cons_zero, List.set_cons_succ] at HW
  revert HW HBW
  generalize (((wr.setCell ⟨w.heap.size, 0, none⟩ (.int .u8 0)).setCell ⟨w.heap.size, 1, none⟩ (.int .i64 t1)).setCell ⟨w.heap.size, 2, none⟩ (.int .i64 t2)) = w3
  intro HBW HW
  have f0 : w3.cell? ⟨w.heap.size, 0, none⟩ = some (.int .u8 0) := by rw [blk_cell HW]; rfl
  have f1 : w3.cell? ⟨w.heap.size, 1, none⟩ = some (.int .i64 t1) := by rw [blk_cell HW]; rfl
  have f2 : w3.cell? ⟨w.heap.size, 2, none⟩ = some (.int .i64 t2) := by rw [blk_cell HW]; rfl
  subst hE
  refine bodyPost_ret (v := .agg #[.int .u8 0, .int .i64 t1, .int .i64 t2]) ?_ hD ⟨rfl, HBW⟩
  simp [results, Try.results31, go_sem, hA, f0, f1, f2]
set_option maxHeartbeats 4000000 in
set_option maxRecDepth 100000 in
theorem best_calls (A : Option Addr) (c : Nat) (l : List Int) (n : Nat) (m base : Nat) (g : Int × Int × Int → List Int) (w : World)
    (hC : Kd.C (Kd.int .u8) w A l.length l) (hc : l.length ≤ c) (hl : l.length ≤ 4096) (hn : n + 3 ≤ l.length) (hG : GM w ka3 m 3 base g) (hgl : (g (key3 l n)).length ≤ 4096) (hz : ∀ z, z ∈ g (key3 l n) → 0 ≤ z ∧ z < (n : Int)) :
    Calls Try.prog 31 #[.map (some m), .slice A l.length c, .int .i64 n] w fun e w' => e = .returned (.agg #[.int .u8 0, .int .i64 (bestGo l n (g (key3 l n)).reverse (0, 0)).1, .int .i64 (bestGo l n (g (key3 l n)).reverse (0, 0)).2]) ∧ Below w.heap.size w w' := by
  obtain ⟨ad, rfl, h0⟩ := Kd.at_int hC (n : Int) (by omega) (by omega)
  obtain ⟨ad1, e1, h1⟩ := Kd.at_int hC ((n : Int) + 1) (by omega) (by omega)
  obtain ⟨ad2, e2, h2⟩ := Kd.at_int hC ((n : Int) + 2) (by omega) (by omega)
  cases e1
  cases e2
  rw [show ((n : Int) + 1).toNat = n + 1 by omega, add_more ad n 1 (by decide)] at h1
  rw [show ((n : Int) + 2).toNat = n + 2 by omega, add_more ad n 2 (by decide)] at h2
  rw [Int.toNat_natCast] at h0
  obtain ⟨key, hkey⟩ : ∃ key, key = key3 l n := ⟨_, rfl⟩
  have hk1 : rd l n = key.1 := by rw [hkey]; rfl
  have hk2 : rd l (n + 1) = key.2.1 := by rw [hkey]; rfl
  have hk3 : rd l (n + 2) = key.2.2 := by rw [hkey]; rfl
  rw [hk1] at h0
  rw [hk2] at h1
  rw [hk3] at h2
  rw [← hkey] at hgl hz ⊢
  clear hk1 hk2 hk3 hkey
  have HC := Aside0.mk hC
  clear hC
  have HG := Aside0.mk hG
  clear hG
  have HZ := Aside0.mk hz
  clear hz
  have hn2 : decide ((l.length : Int) < (n : Int) + 3) = false := decide_eq_false (by omega)
  have h0' : ∀ o, (w.alloc o).cell? (ad.add n) = some (Value.int .u8 key.1) := fun o => pw_cell_below (below_alloc (Below.refl _ _) o) h0
  have h1' : ∀ o, (w.alloc o).cell? ⟨(ad.add n).block, (ad.add n).off + 1, none⟩ = some (Value.int .u8 key.2.1) := fun o => pw_cell_below (below_alloc (Below.refl _ _) o) h1
  have h2' : ∀ o, (w.alloc o).cell? ⟨(ad.add n).block, (ad.add n).off + 2, none⟩ = some (Value.int .u8 key.2.2) := fun o => pw_cell_below (below_alloc (Below.refl _ _) o) h2
  clear h0 h1 h2
  have harr := arr3
  obtain ⟨zs, hzs⟩ : ∃ zs, g key = zs := ⟨_, rfl⟩
  rw [hzs] at hgl HZ ⊢
  go_enter Try.func31, Try.ntmps31
  go_wp2_with (first
    | (refine wpList_gm_lookup rfl _ _ 68 73 33 rfl keyok73 Try.underlying68 hz_zero33 rfl (HG.out.same (SameTy.of_grown (World.grownBy_alloc _ _ none) (by simp) (by simp))) key rfl ?_; intro v hv; rw [hzs] at hv; replace hv := own_before hv (by decide); obtain ⟨A1, c1, rfl, hr1⟩ := own_reads hv; have HV := Aside0.mk hr1; clear hv hr1))
  clear h0' h1' h2' harr hn2
  go_loopw [8] (fun i wr => ∃ (j : Nat) (t1 t2 : Int), j ≤ zs.length ∧ i = .int .i64 ((j : Int) - 1) ∧ Aside0 (bestGo l n (zs.take j).reverse (t1, t2) = bestGo l n zs.reverse (0, 0)) ∧ Aside0 (wr.heap[w.heap.size]? = some (Obj.cells #[.int .u8 0, .int .i64 t1, .int .i64 t2] 46 (0, 0))) ∧ Aside0 (Below w.heap.size w wr)) (fun i _ => (intOf i + 1).toNat)
  case atStart => exact ⟨zs.length, 0, 0, Nat.le_refl _, rfl, ⟨by rw [List.take_length]⟩, ⟨Array.getElem?_push_size⟩, ⟨below_alloc (Below.refl _ _) _⟩⟩
  case round =>
    obtain ⟨j, t1, t2, hj, rfl, HA, HH, HB⟩ := hrel
    have f0 : wr.cell? ⟨w.heap.size, 0, none⟩ = some (.int .u8 0) := by rw [blk_cell HH.out]; rfl
    have f1 : wr.cell? ⟨w.heap.size, 1, none⟩ = some (.int .i64 t1) := by rw [blk_cell HH.out]; rfl
    have f2 : wr.cell? ⟨w.heap.size, 2, none⟩ = some (.int .i64 t2) := by rw [blk_cell HH.out]; rfl
    have z0 := blk_frozen HH.out 0
    have z1 := blk_frozen HH.out 1
    have z2 := blk_frozen HH.out 2
    rcases j with _ | j
    · rw [show (((0 : Nat) : Int) - 1) = -1 from rfl]
      have hA := HA.out
      rw [List.take_zero, List.reverse_nil, bestGo] at hA
      go_wp2
      exact best_end l n w wr zs t1 t2 _ _ HH.out HB.out (by rw [← hA]) rfl rfl
    · rw [show (((j + 1 : Nat) : Int) - 1) = (j : Int) by omega]
      have hR := HV.out.below HB.out
      obtain ⟨ad2, rfl, hz0⟩ := hR.at_ (j : Int) (by omega) (by omega)
      rw [Int.toNat_natCast] at hz0
      obtain ⟨z, hz⟩ : ∃ z, rd zs j = z := ⟨_, rfl⟩
      have hzm := HZ.out z (by rw [← hz, rd, Int.toNat_natCast, List.getD_eq_getElem?_getD, List.getElem?_eq_getElem (by omega)]; exact List.getElem_mem _)
      have hA := HA.out
      rw [show zs.take (j + 1) = zs.take j ++ [z] by rw [← hz, rd, Int.toNat_natCast, List.getD_eq_getElem?_getD, List.getElem?_eq_getElem (by omega : j < zs.length), List.take_succ_eq_append_getElem (by omega : j < zs.length)]; rfl, List.reverse_append, List.reverse_singleton, List.singleton_append, bestGo] at hA
      rw [hz] at hz0
      clear hR hz HA
      by_cases c5 : (n : Int) - z ≤ 255
      · rw [if_pos c5] at hA
        have c5b := decide_eq_true c5
        have hrun := run_eq l z.toNat n (by omega) (by omega) hl 300 (by decide)
        rw [show ((z.toNat : Nat) : Int) = z by omega] at hrun
        obtain ⟨r, hr⟩ : ∃ r, lzRun l z.toNat n 200 0 = r := ⟨_, rfl⟩
        rw [hr] at hrun hA
        have hrl : r ≤ 200 := by have := lzRun_le l z.toNat n 200 0; omega
        clear hr c5
        have HA := Aside0.mk hA
        have HRUN := Aside0.mk hrun
        clear hA hrun
        go_wp2_with (first | ((with_reducible refine gate_callee (f := 36) rfl ?_); refine goesL_ _ rfl rfl Try.func36 (by kernel_rfl) rfl #[.slice (some ad) l.length c, .int .i64 z, .int .i64 n] rfl (by (try simp only [List.map_toArray, List.map_cons, List.map_nil]); first | done | rfl) ?_; refine (lz_run.calls 300 (some ad) c l z n r wr (Kd.C_below HC.out HB.out) hc HRUN.out).mono ?_; rintro e w5 ⟨rfl, ⟨q, rfl⟩⟩; refine ⟨_, rfl, ?_⟩))
        · have hlt : t2 < (r : Int) := by assumption
          have HW := blk_set (blk_set (blk_set (show (wr.drewN q).heap[w.heap.size]? = _ from HH.out) 0 (.int .u8 0)) 1 (.int .i64 ((n : Int) - z))) 2 (.int .i64 (r : Int))
          simp only [List.setIfInBounds_toArray, List.set_cons_zero, List.set_cons_succ] at HW
          have HBW := (((pw_below_drewN HB.out q).setCell (p := ⟨w.heap.size, 0, none⟩) (Nat.le_refl _) (.int .u8 0)).setCell (p := ⟨w.heap.size, 1, none⟩) (Nat.le_refl _) (.int .i64 ((n : Int) - z))).setCell (p := ⟨w.heap.size, 2, none⟩) (Nat.le_refl _) (.int .i64 (r : Int))
          have hA := HA.out
          rw [if_pos hlt] at hA
          refine ⟨⟨j, (n : Int) - z, (r : Int), by omega, rfl, ⟨hA⟩, ⟨?_⟩, ⟨?_⟩⟩, by simp [intOf]⟩
          · first | exact HW | simpa using HW
          · first | exact HBW | simpa using HBW
        · have hle : (r : Int) ≤ t2 := by assumption
          have hA := HA.out
          rw [if_neg (by show ¬ ((r : Int) > t2); omega)] at hA
          exact ⟨⟨j, t1, t2, by omega, rfl, ⟨hA⟩, ⟨HH.out⟩, ⟨pw_below_drewN HB.out q⟩⟩, by simp [intOf]⟩
      · rw [if_neg c5] at hA
        have c5b := decide_eq_false c5
        clear c5
        go_wp2
        exact best_end l n w wr zs t1 t2 _ _ HH.out HB.out (by rw [← hA]) rfl rfl

set_option maxRecDepth 100000 in
theorem best_none (A : Option Addr) (c : Nat) (l : List Int) (n : Nat) (m : Nat) (w : World) (hl : l.length ≤ 4096) (hn1 : n ≤ 5000) (hn : ¬ n + 3 ≤ l.length) :
    Calls Try.prog 31 #[.map (some m), .slice A l.length c, .int .i64 n] w fun e w' => e = .returned (.agg #[.int .u8 0, .int .i64 0, .int .i64 0]) ∧ Below w.heap.size w w' := by
  have hn2 : decide ((l.length : Int) < (n : Int) + 3) = true := decide_eq_true (by omega)
  clear hn
  go_enter Try.func31, Try.ntmps31
  go_wp2
  exact bodyPost_ret (v := .agg #[.int .u8 0, .int .i64 0, .int .i64 0]) (by simp [results, Try.results31, go_sem]) rfl ⟨rfl, (Below.refl _ _).alloc (Nat.le_refl _) _⟩
/-- the places ahead of a at which three bytes stand -/
def poss (l : List Int) (a : Nat) (k : Int × Int × Int) : List Int := ((List.range a).filter (fun p => decide (p + 3 ≤ l.length ∧ key3 l (p : Nat) = k))).map (fun p => ((p : Nat) : Int))
theorem poss_zero (l : List Int) : poss l 0 = fun _ => [] := rfl
theorem poss_note (l : List Int) (a : Nat) (h : a + 3 ≤ l.length) : gval (poss l a) (key3 l a) (poss l a (key3 l a) ++ [(a : Int)]) = poss l (a + 1) := by
  funext k
  unfold gval poss
  rw [List.range_succ, List.filter_append, List.map_append]
  by_cases c : k = key3 l a
  · subst c
    rw [if_pos rfl]
    congr 1
    simp [h]
  · rw [if_neg c]
    have : decide (a + 3 ≤ l.length ∧ key3 l (a : Nat) = k) = false := by
      rw [decide_eq_false_iff_not]
      exact fun h => c h.2.symm
    rw [List.filter_cons, this]
    simp
theorem poss_skip (l : List Int) (a : Nat) (h : ¬ a + 3 ≤ l.length) : poss l a = poss l (a + 1) := by
  funext k
  unfold poss
  rw [List.range_succ, List.filter_append, List.map_append]
  simp [h]
theorem poss_mem (l : List Int) (a : Nat) (k : Int × Int × Int) (z : Int) (h : z ∈ poss l a k) : 0 ≤ z ∧ z < (a : Int) := by
  unfold poss at h
  obtain ⟨p, hp, rfl⟩ := List.mem_map.1 h
  have := List.mem_range.1 (List.mem_filter.1 hp).1
  omega
theorem poss_len (l : List Int) (a : Nat) (k : Int × Int × Int) : (poss l a k).length ≤ a := by
  unfold poss
  rw [List.length_map]
  exact Nat.le_trans (List.length_filter_le _ _) (by rw [List.length_range]; exact Nat.le_refl _)
def bestAt (l : List Int) (a : Nat) : Int × Int := if a + 3 ≤ l.length then bestGo l a (poss l a (key3 l a)).reverse (0, 0) else (0, 0)
/-- the token at a place -/
def tokAt (l : List Int) (a : Nat) : S46 := ⟨if (bestAt l a).2 = 0 then rd l a else 0, (bestAt l a).1, (bestAt l a).2⟩
def parseGo (l : List Int) : Nat → Nat → List S46
  | 0, _ => []
  | f + 1, a => if a < l.length then tokAt l a :: parseGo l f (a + max (bestAt l a).2.toNat 1) else []
def lz_Parse.f (l : List Int) : Option (List S46 × Int) := if l.length > 4096 then some ([], 1) else some (parseGo l l.length 0, 0)
theorem lzRun_in (l : List Int) (p a : Nat) : ∀ f n, a + n ≤ l.length → a + lzRun l p a f n ≤ l.length
  | 0, n, h => by rw [lzRun]; exact h
  | f + 1, n, h => by
    rw [lzRun]
    split
    · exact lzRun_in l p a f (n + 1) (by omega)
    · exact h
theorem bestGo_in (l : List Int) (a : Nat) (ha : a ≤ l.length) : ∀ (ps : List Int) (t : Int × Int), 0 ≤ t.2 ∧ t.2 ≤ 200 ∧ a + t.2.toNat ≤ l.length → 0 ≤ (bestGo l a ps t).2 ∧ (bestGo l a ps t).2 ≤ 200 ∧ a + (bestGo l a ps t).2.toNat ≤ l.length
  | [], t, h => h
  | p :: ps, t, h => by
    rw [bestGo]
    split
    · refine bestGo_in l a ha ps _ ?_
      split
      · have h1 := lzRun_in l p.toNat a 200 0 (by omega)
        have h2 := lzRun_le l p.toNat a 200 0
        exact ⟨by simp, by simp; omega, by simp; omega⟩
      · exact h
    · exact h
theorem bestAt_in (l : List Int) (a : Nat) (ha : a ≤ l.length) : 0 ≤ (bestAt l a).2 ∧ (bestAt l a).2 ≤ 200 ∧ a + (bestAt l a).2.toNat ≤ l.length := by
  unfold bestAt
  split
  · exact bestGo_in l a ha _ _ ⟨by simp, by simp, by simpa using ha⟩
  · exact ⟨by simp, by simp, by simpa using ha⟩
theorem parseGo_fuel (l : List Int) : ∀ (f g a : Nat), l.length ≤ a + f → l.length ≤ a + g → parseGo l f a = parseGo l g a
  | 0, 0, _, _, _ => rfl
  | 0, g + 1, a, h1, _ => by rw [parseGo, parseGo, if_neg (by omega)]
  | f + 1, 0, a, _, h2 => by rw [parseGo, parseGo, if_neg (by omega)]
  | f + 1, g + 1, a, h1, h2 => by
    rw [parseGo, parseGo]
    split
    · rw [parseGo_fuel l f g _ (by omega) (by omega)]
    · rfl
theorem parse_step (l : List Int) (a : Nat) (h : a < l.length) : parseGo l l.length a = [tokAt l a] ++ parseGo l l.length (a + max (bestAt l a).2.toNat 1) := by
  have h1 : parseGo l (l.length + 1) a = parseGo l l.length a := parseGo_fuel l _ _ a (by omega) (by omega)
  rw [← h1, parseGo, if_pos h]
  rfl
theorem parse_stop (l : List Int) (a : Nat) (h : ¬ a < l.length) : parseGo l l.length a = [] := by
  have h1 : parseGo l (l.length + 1) a = parseGo l l.length a := parseGo_fuel l _ _ a (by omega) (by omega)
  rw [← h1, parseGo, if_neg h]
theorem R_note {α : Type} {d : Kd α} {e base0 : Nat} {ok : Nat → Prop} {w w' : World} {v : Value} {xs : List α} {m et base : Nat} {es : Array MapEntry} {c : Nat} (h : d.R e w base0 ok v xs) (hk : NoteKept w w' m et base) (hm : w.heap[m]? = some (.map es c)) (ht : ∀ q, q ∈ e :: d.E → q ≠ et) : d.R e w' base0 ok v xs :=
  Kd.R_mono (Kd.R_step (Kd.R_bound h) (fun k hb hlt => by
    obtain ⟨_, _, _, q, hq, cells, hc⟩ := hb
    refine hk.block k hlt (fun e1 => by rw [e1, hm] at hc; cases hc) (.inr (fun cs hcs => ?_))
    rw [hc] at hcs
    injection hcs with hcs
    injection hcs with _ hcs
    exact ht q hq hcs)) (fun _ hb => hb.1)
theorem GM_append {w w1 : World} {κ : Type} [DecidableEq κ] {ka : κ → Value} {m et base b : Nat} {g : κ → List Int} {α : Type} {d : Kd α} {e : Nat} {ok : Nat → Prop} {v : Value} {xs : List α} (hG : GM w ka m et base g) (hR : d.R e w b ok v xs) (hg : w.grownBy w1 v.ownBlock) (hne : e ≠ et) : GM w1 ka m et base g := by
  refine hG.same (SameTy.of_grown hg (fun e1 => ?_) (fun k hk cs hcs => ?_))
  · obtain ⟨cs, hcs⟩ := Kd.R_typed hR m e1.symm
    obtain ⟨L, hL, _⟩ := hG
    rw [hL] at hcs
    cases hcs
  · obtain ⟨ds, hds⟩ := Kd.R_typed hR k hk
    rw [hds] at hcs
    injection hcs with hcs
    injection hcs with _ hcs
    exact hne hcs
theorem slot_new (w : World) (o : Obj) : (Value.slice (some ⟨w.heap.size + 1, 0, none⟩) 1 1) = .slice (some ⟨(w.alloc o).heap.size, 0, none⟩) 1 1 := by simp
theorem box_after {α : Type} {d : Kd α} {e b : Nat} {ok : Nat → Prop} {v : Value} {xs : List α} {wr w5 w6 : World} {x : Value} {y z : Value} {t : TypeId} (HR : d.R e wr b ok v xs) (hb : Below wr.heap.size wr w5) (hg : (w5.alloc (.cells #[x, y, z] t)).grownBy w6 v.ownBlock) : w6.cell? ⟨w5.heap.size, 2, none⟩ = some z := by
  have h0 : (w5.alloc (.cells #[x, y, z] t)).heap[w5.heap.size]? = some (Obj.cells #[x, y, z] t (0, 0)) := Array.getElem?_push_size
  have h1 := blk_grown h0 hg (fun e1 => by
    have := Kd.R_lt HR _ e1.symm
    have := hb.size
    omega)
  rw [blk_cell h1]
  rfl
theorem best_any (A : Option Addr) (c : Nat) (l : List Int) (a : Nat) (m base : Nat) (w : World) (hC : Kd.C (Kd.int .u8) w A l.length l) (hc : l.length ≤ c) (hl : l.length ≤ 4096) (ha : a ≤ l.length) (hG : GM w ka3 m 3 base (poss l a)) :
    Calls Try.prog 31 #[.map (some m), .slice A l.length c, .int .i64 a] w fun e w' => e = .returned (.agg #[.int .u8 0, .int .i64 (bestAt l a).1, .int .i64 (bestAt l a).2]) ∧ Below w.heap.size w w' := by
  by_cases h : a + 3 ≤ l.length
  · rw [bestAt, if_pos h]
    exact best_calls A c l a m base _ w hC hc hl h hG (by have := poss_len l a (key3 l a); omega) (fun z hz => poss_mem l a _ z hz)
  · rw [bestAt, if_neg h]
    exact best_none A c l a m w hl (by omega) h
theorem note_any (A : Option Addr) (c : Nat) (l : List Int) (a : Nat) (m base : Nat) (w : World) (hC : Kd.C (Kd.int .u8) w A l.length l) (hc : l.length ≤ c) (hl : l.length ≤ 4096) (ha : a ≤ l.length) (hG : GM w ka3 m 3 base (poss l a)) (hb : base ≤ w.heap.size) :
    Calls Try.prog 32 #[.map (some m), .slice A l.length c, .int .i64 a] w fun e w' => e = .returned (.tuple #[]) ∧ GM w' ka3 m 3 base (poss l (a + 1)) ∧ NoteKept w w' m 3 base := by
  by_cases h : a + 3 ≤ l.length
  · rw [← poss_note l a h]
    exact note_calls A c l a m base _ w hC hc hl h hG hb (by have := poss_len l a (key3 l a); omega)
  · rw [← poss_skip l a h]
    refine (note_skips A c l a m w hl (by omega) h).mono ?_
    rintro e w' ⟨rfl, rfl⟩
    exact ⟨rfl, hG, NoteKept.refl _ _ _ _⟩
set_option maxHeartbeats 8000000 in
set_option maxRecDepth 100000 in
theorem parse_calls (A : Option Addr) (c : Nat) (l : List Int) (w : World) (hC : Kd.C (Kd.int .u8) w A l.length l) (hc : l.length ≤ c) (hl : l.length ≤ 4096) :
    Calls Try.prog 21 #[.slice A l.length c] w fun e w' => ∃ v, e = .returned (.tuple #[v, .int .i64 0]) ∧ Kd.R k46 46 w' w.heap.size (fun _ => True) v (parseGo l l.length 0) ∧ Below w.heap.size w w' := by
  have HC := Aside0.mk hC
  clear hC
  have hl0 : decide (4096 < l.length) = false := decide_eq_false (by omega)
  have hmm := @run_makeMap Try.prog
  go_enter Try.func21, Try.ntmps21
  go_wp2
  clear hl0 hmm
  go_loopw [5, 6] (fun v i wr => ∃ (a : Nat) (ts : List S46), a ≤ l.length ∧ i = .int .i64 a ∧ Aside0 (ts ++ parseGo l l.length a = parseGo l l.length 0) ∧ Aside0 (ts.length ≤ a) ∧ Aside0 (Kd.R k46 46 wr w.heap.size (fun _ => True) v ts) ∧ Aside0 (GM wr ka3 w.heap.size 3 (w.heap.size + 1) (poss l a)) ∧ Aside0 (Below w.heap.size w wr)) (fun _ i _ => l.length - (intOf i).toNat)
  case atStart =>
    refine ⟨0, [], Nat.zero_le _, rfl, ⟨rfl⟩, ⟨Nat.le_refl _⟩, ⟨Kd.R_nil _ _ _ _ _⟩, ⟨⟨[], Array.getElem?_push_size, by simp, by simp, fun _ _ => rfl, by simp⟩⟩, ⟨below_alloc (Below.refl _ _) _⟩⟩
  case round =>
    obtain ⟨a, ts, ha, rfl, HA, HT, HR, HG, HB⟩ := hrel
    by_cases c0 : a < l.length
    · have c0b : decide (a < l.length) = true := decide_eq_true c0
      obtain ⟨b1, hb1⟩ : ∃ x, (bestAt l a).1 = x := ⟨_, rfl⟩
      obtain ⟨b2, hb2⟩ : ∃ x, (bestAt l a).2 = x := ⟨_, rfl⟩
      have hin := bestAt_in l a ha
      rw [hb2] at hin
      have HIN := Aside0.mk hin
      have hb0 := hin.1
      have hb200 := hin.2.1
      have HBE := best_any A c l a w.heap.size (w.heap.size + 1) wr (Kd.C_below HC.out HB.out) hc hl ha HG.out
      rw [hb1, hb2] at HBE
      have HB1 := Aside0.mk hb1
      have HB2 := Aside0.mk hb2
      clear hb1 hb2 hin
      have HCA := Aside0.mk HBE
      clear HBE
      obtain ⟨ad, rfl, hx⟩ := Kd.at_int (Kd.C_below HC.out HB.out) (a : Int) (by omega) (by omega)
      rw [Int.toNat_natCast] at hx
      have HX := Aside0.mk hx
      clear hx
      by_cases c2 : b2 = 0
      · subst c2
        go_wp2_with (first
          | ((with_reducible refine gate_callee (f := 31) rfl ?_); refine goesL_ _ rfl rfl Try.func31 (by kernel_rfl) rfl #[.map (some w.heap.size), .slice (some ad) l.length c, .int .i64 a] rfl (by (try simp only [List.map_toArray, List.map_cons, List.map_nil]); first | done | rfl) ?_; refine HCA.out.mono ?_; rintro e w5 ⟨rfl, hb5⟩; refine ⟨_, rfl, ?_⟩; have HB5 := Aside0.mk hb5; have hx5 : ∀ o, (w5.alloc o).cell? (ad.add a) = some (.int .u8 (rd l a)) := (fun o => pw_cell_below (below_alloc (Below.refl _ _) o) (pw_cell_below hb5 HX.out)); clear hb5)
          | ((with_reducible refine gate_builtin (b := .append) (xs := #[.tmp 28, .tmp 30]) rfl ?_); at_builtin; refine Kd.R_append k46 (w0 := w) (W := w5.alloc (.cells #[.int .u8 (rd l a), .int .i64 b1, .int .i64 (0)] 46)) w.heap.size rfl (.tmp 28) (.tmp 30) 40 46 (.agg #[(.int .u8 0), (.int .i64 0), (.int .i64 0)]) 24 rfl Try.underlying40 info46 rfl (by decide) (by decide) u5 ts (⟨rd l a, b1, 0⟩ : S46) [.int .u8 (rd l a), .int .i64 b1, .int .i64 (0)] (fun _ => True) (fun _ => False) rfl ?aX (k46_mkM _ _ _ (⟨rd l a, b1, 0⟩ : S46)) (fun _ hk => hk.elim) (fun _ _ => trivial) ?aO ?aB ?aS ?aL ?_; (case aX => exact slot_new w5 _); (case aO => exact Kd.R_alloc (Kd.R_below HR.out HB5.out) _); (case aB => exact below_alloc (below_then HB.out HB.out.size HB5.out) _); (case aS => exact (below_alloc (below_then HB.out HB.out.size HB5.out) _).size); (case aL => have := HT.out; omega); intro v1 w6 ho hb6 hg6 hat6; have HR6 := Aside0.mk ho; have HB6 := Aside0.mk hb6; have HG6 := Aside0.mk (GM_append (hG := (HG.out.same (SameTy.of_grown (grown_of_below HB5.out none) (by simp) (by simp))).same (SameTy.of_grown (World.grownBy_alloc _ _ none) (by simp) (by simp))) (hR := Kd.R_alloc (Kd.R_below HR.out HB5.out) _) hg6 (by decide)); have HC6 := Aside0.mk (box_after (HR := HR.out) HB5.out hg6); clear ho hb6 hg6 hat6; have f2 := HC6.out))
        clear f2 hx5
        obtain ⟨wo, hwo⟩ : ∃ wo : World, wo = wr := ⟨_, rfl⟩
        subst hwo
        go_loopw [6, 35] (fun i j w7 => ∃ q : Nat, q ≤ 1 ∧ i = .int .i64 ((a + q : Nat) : Int) ∧ j = .int .i64 (q : Int) ∧ Aside0 (GM w7 ka3 w.heap.size 3 (w.heap.size + 1) (poss l (a + q))) ∧ Aside0 (Kd.R k46 46 w7 w.heap.size (fun _ => True) v1 (ts ++ [⟨rd l a, b1, 0⟩])) ∧ Aside0 (Below w.heap.size w w7)) (fun _ j _ => 1 - (intOf j).toNat)
        case atStart => exact ⟨0, Nat.zero_le _, rfl, rfl, HG6, HR6, HB6⟩
        case round =>
          obtain ⟨q, hq, rfl, rfl, HG7, HR7, HB7⟩ := hrel
          have haq : a + q ≤ l.length := by have := HIN.out.2.2; omega
          by_cases c3 : q < 1
          · have c3b : decide ((q : Int) < 1) = true := decide_eq_true (by omega)
            have HN := Aside0.mk (note_any (some ad) c l (a + q) w.heap.size (w.heap.size + 1) wr (Kd.C_below HC.out HB7.out) hc hl haq HG7.out (by
              obtain ⟨L, hL, _⟩ := HG7.out
              have := (Array.getElem?_eq_some_iff.1 hL).1
              omega))
            go_wp2_with (first
              | ((with_reducible refine gate_callee (f := 32) rfl ?_); refine goesL_ _ rfl rfl Try.func32 (by kernel_rfl) rfl #[.map (some w.heap.size), .slice (some ad) l.length c, .int .i64 ((a + q : Nat) : Int)] rfl (by (try simp only [List.map_toArray, List.map_cons, List.map_nil]); first | done | rfl) ?_; refine HN.out.mono ?_; rintro e w8 ⟨rfl, hg8, hk8⟩; refine ⟨_, rfl, ?_⟩; have HG8 := Aside0.mk hg8; have HK8 := Aside0.mk hk8; clear hg8 hk8))
            refine ⟨⟨q + 1, by omega, by go_num, by go_num, ⟨HG8.out⟩, ⟨?_⟩, ⟨?_⟩⟩, by simp [intOf]; omega⟩
            · obtain ⟨L, hL, _⟩ := HG7.out
              exact R_note HR7.out HK8.out hL (by decide)
            · exact HB7.out.trans (HK8.out.below (Nat.le_refl _) (by omega) HB7.out.size)
          · obtain rfl : q = 1 := by omega
            have c3b : decide ((1 : Int) < 1) = false := decide_eq_false (by omega)
            go_wp2
            refine ⟨⟨a + 1, ts ++ [⟨rd l a, b1, 0⟩], haq, rfl, ⟨?_⟩, ⟨?_⟩, ⟨HR7.out⟩, ⟨HG7.out⟩, ⟨HB7.out⟩⟩, by simp [intOf]; omega⟩
            · rw [← HA.out, parse_step l a c0, List.append_assoc]
              congr 1
              simp [tokAt, HB1.out, HB2.out]
            · rw [List.length_append]; have := HT.out; simp; omega
      · obtain ⟨R, rfl⟩ : ∃ R : Nat, b2 = (R : Int) := ⟨b2.toNat, by omega⟩
        have hR1 : 1 ≤ R := by omega
        have c2b : ((R : Int) == 0) = false := beq_eq_false_iff_ne.mpr c2
        have C2 := Aside0.mk c2
        clear c2
        go_wp2_with (first
          | ((with_reducible refine gate_callee (f := 31) rfl ?_); refine goesL_ _ rfl rfl Try.func31 (by kernel_rfl) rfl #[.map (some w.heap.size), .slice (some ad) l.length c, .int .i64 a] rfl (by (try simp only [List.map_toArray, List.map_cons, List.map_nil]); first | done | rfl) ?_; refine HCA.out.mono ?_; rintro e w5 ⟨rfl, hb5⟩; refine ⟨_, rfl, ?_⟩; have HB5 := Aside0.mk hb5; have hx5 : ∀ o, (w5.alloc o).cell? (ad.add a) = some (.int .u8 (rd l a)) := (fun o => pw_cell_below (below_alloc (Below.refl _ _) o) (pw_cell_below hb5 HX.out)); clear hb5)
          | ((with_reducible refine gate_builtin (b := .append) (xs := #[.tmp 28, .tmp 30]) rfl ?_); at_builtin; refine Kd.R_append k46 (w0 := w) (W := w5.alloc (.cells #[.int .u8 (0), .int .i64 b1, .int .i64 ((R : Int))] 46)) w.heap.size rfl (.tmp 28) (.tmp 30) 40 46 (.agg #[(.int .u8 0), (.int .i64 0), (.int .i64 0)]) 24 rfl Try.underlying40 info46 rfl (by decide) (by decide) u5 ts (⟨0, b1, (R : Int)⟩ : S46) [.int .u8 (0), .int .i64 b1, .int .i64 ((R : Int))] (fun _ => True) (fun _ => False) rfl ?aX (k46_mkM _ _ _ (⟨0, b1, (R : Int)⟩ : S46)) (fun _ hk => hk.elim) (fun _ _ => trivial) ?aO ?aB ?aS ?aL ?_; (case aX => exact slot_new w5 _); (case aO => exact Kd.R_alloc (Kd.R_below HR.out HB5.out) _); (case aB => exact below_alloc (below_then HB.out HB.out.size HB5.out) _); (case aS => exact (below_alloc (below_then HB.out HB.out.size HB5.out) _).size); (case aL => have := HT.out; omega); intro v1 w6 ho hb6 hg6 hat6; have HR6 := Aside0.mk ho; have HB6 := Aside0.mk hb6; have HG6 := Aside0.mk (GM_append (hG := (HG.out.same (SameTy.of_grown (grown_of_below HB5.out none) (by simp) (by simp))).same (SameTy.of_grown (World.grownBy_alloc _ _ none) (by simp) (by simp))) (hR := Kd.R_alloc (Kd.R_below HR.out HB5.out) _) hg6 (by decide)); have HC6 := Aside0.mk (box_after (HR := HR.out) HB5.out hg6); clear ho hb6 hg6 hat6; have f2 := HC6.out))
        clear f2 hx5
        obtain ⟨wo, hwo⟩ : ∃ wo : World, wo = wr := ⟨_, rfl⟩
        subst hwo
        go_loopw [6, 35] (fun i j w7 => ∃ q : Nat, q ≤ R ∧ i = .int .i64 ((a + q : Nat) : Int) ∧ j = .int .i64 (q : Int) ∧ Aside0 (GM w7 ka3 w.heap.size 3 (w.heap.size + 1) (poss l (a + q))) ∧ Aside0 (Kd.R k46 46 w7 w.heap.size (fun _ => True) v1 (ts ++ [⟨0, b1, (R : Int)⟩])) ∧ Aside0 (Below w.heap.size w w7)) (fun _ j _ => R - (intOf j).toNat)
        case atStart => exact ⟨0, Nat.zero_le _, rfl, rfl, HG6, HR6, HB6⟩
        case round =>
          obtain ⟨q, hq, rfl, rfl, HG7, HR7, HB7⟩ := hrel
          have haq : a + q ≤ l.length := by have := HIN.out.2.2; omega
          by_cases c3 : q < R
          · have c3b : decide ((q : Int) < (R : Int)) = true := decide_eq_true (by omega)
            have HN := Aside0.mk (note_any (some ad) c l (a + q) w.heap.size (w.heap.size + 1) wr (Kd.C_below HC.out HB7.out) hc hl haq HG7.out (by
              obtain ⟨L, hL, _⟩ := HG7.out
              have := (Array.getElem?_eq_some_iff.1 hL).1
              omega))
            go_wp2_with (first
              | ((with_reducible refine gate_callee (f := 32) rfl ?_); refine goesL_ _ rfl rfl Try.func32 (by kernel_rfl) rfl #[.map (some w.heap.size), .slice (some ad) l.length c, .int .i64 ((a + q : Nat) : Int)] rfl (by (try simp only [List.map_toArray, List.map_cons, List.map_nil]); first | done | rfl) ?_; refine HN.out.mono ?_; rintro e w8 ⟨rfl, hg8, hk8⟩; refine ⟨_, rfl, ?_⟩; have HG8 := Aside0.mk hg8; have HK8 := Aside0.mk hk8; clear hg8 hk8))
            refine ⟨⟨q + 1, by omega, by go_num, by go_num, ⟨HG8.out⟩, ⟨?_⟩, ⟨?_⟩⟩, by simp [intOf]; omega⟩
            · obtain ⟨L, hL, _⟩ := HG7.out
              exact R_note HR7.out HK8.out hL (by decide)
            · exact HB7.out.trans (HK8.out.below (Nat.le_refl _) (by omega) HB7.out.size)
          · obtain rfl : R = q := by omega
            have c3b : decide ((R : Int) < (R : Int)) = false := decide_eq_false (by omega)
            go_wp2
            refine ⟨⟨a + R, ts ++ [⟨0, b1, (R : Int)⟩], haq, rfl, ⟨?_⟩, ⟨?_⟩, ⟨HR7.out⟩, ⟨HG7.out⟩, ⟨HB7.out⟩⟩, by simp [intOf]; omega⟩
            · rw [← HA.out, parse_step l a c0, List.append_assoc]
              congr 1
              have hc2 := C2.out; simp [tokAt, HB1.out, HB2.out, hc2]; rw [Nat.max_eq_left hR1]; exact ⟨fun h => by omega, rfl⟩
            · rw [List.length_append]; have := HT.out; simp; omega
    · have hal : a = l.length := by omega
      have c0b : decide (a < l.length) = false := decide_eq_false c0
      go_wp2
      go_ret2
      refine ⟨_, rfl, ?_, HB.out⟩
      have hA := HA.out
      rw [parse_stop l a c0, List.append_nil] at hA
      rw [← hA]
      exact HR.out

set_option maxRecDepth 100000 in
theorem parse_long (A : Option Addr) (c : Nat) (l : List Int) (w : World) (hl : ¬ l.length ≤ 4096) :
    Calls Try.prog 21 #[.slice A l.length c] w fun e w' => e = .returned (.tuple #[.slice none 0 0, .int .i64 1]) ∧ w' = w := by
  have hl0 : decide (4096 < l.length) = true := decide_eq_true (by omega)
  have hl1 : decide (4096 < (l.length : Int)) = true := decide_eq_true (by omega)
  clear hl
  go_enter Try.func21, Try.ntmps21
  go_wp2
  go_ret2
  exact ⟨rfl, rfl⟩
theorem lz_Parse.calls (A0 : Option Addr) (c0 : Nat) (l0 : List Int) (r1 : List S46) (r2 : Int) (w : World) (hr0 : Kd.C (Kd.int .u8) w A0 l0.length l0) (hc0 : l0.length ≤ c0) (h : lz_Parse.f l0 = some (r1, r2)) :
    Calls Try.prog 21 #[.slice A0 l0.length c0] w fun e w' => ∃ v0_ : Value, e = .returned (.tuple #[v0_, .int .i64 r2]) ∧ Kd.R k46 46 w' w.heap.size (fun _ => True) v0_ r1 ∧ Below w.heap.size w w' := by
  unfold lz_Parse.f at h
  by_cases c : l0.length > 4096
  · rw [if_pos c] at h
    simp only [Option.some.injEq, Prod.mk.injEq] at h
    obtain ⟨rfl, rfl⟩ := h
    refine (parse_long A0 c0 l0 w (by omega)).mono ?_
    rintro e w' ⟨rfl, rfl⟩
    exact ⟨_, rfl, Kd.R_nil _ _ _ _ _, Below.refl _ _⟩
  · rw [if_neg c] at h
    simp only [Option.some.injEq, Prod.mk.injEq] at h
    obtain ⟨rfl, rfl⟩ := h
    exact parse_calls A0 c0 l0 w hr0 hc0 (by omega)

end Go.Proofs.Ytknpmpfcmgjpdaa.PLzRuns
