/- Printed by a program of this session (wip/myprint.py): Go functions of the law as Lean functions, and the proof that the code comes to these answers. -/
import Derived.Test.YtknpmpfcmgjpdaaPDeltaSmallx0
import Derived.Test.YtknpmpfcmgjpdaaPDeltaSmallx1
namespace Go.Proofs.Ytknpmpfcmgjpdaa.PDeltaSmall
open Go.RowKit Go.Proofs.YtknpmpfcmgjpdaaW.PrintWords Go.Proofs.YtknpmpfcmgjpdaaW.PrintLast Go.Proofs.YtknpmpfcmgjpdaaW.PrintMore
attribute [local go_sem] max2_int min2_int max_two min_two max_three min_three max_four min_four   -- for this text's walks alone
attribute [local go_sem] pn_setCell_drewN
set_option linter.unusedVariables false
set_option linter.unusedSimpArgs false

/-! ### delta_Delta: function 16, by hand -/
theorem gm_eq3 {P : Program} (w : World) (d : Nat) (kt e : TypeId) (hu : P.underlying kt = some (.array 3 e)) (he : P.underlying e = some (.int .u8)) (hs : (P.info? e).map (fun i => (i.zero, i.size, i.bytes)) = some (some (.int .u8 0), 1, 1)) (x y z x' y' z' : Int) :
    (Op.equalIn (d + 2) kt (.agg #[.int .u8 x, .int .u8 y, .int .u8 z]) (.agg #[.int .u8 x', .int .u8 y', .int .u8 z'])).run P w = .ok (x == x' && (y == y' && z == z')) w := by
  obtain ⟨i0, hi, _, hsz, _⟩ := info_parts hs
  have eqi : ∀ a b : Int, (Op.equalIn (d + 1) e (.int .u8 a) (.int .u8 b)).run P w = .ok (a == b) w := by
    intro a b
    simp [Op.equalIn, run_underlying he]
  have ho : (sizeOf e).run P w = .ok 1 w := by simp [sizeOf, typeInfo, hi, hsz]
  have hp : ∀ (cs : Array Value) (off : Nat) (v : Value), cs[off]? = some v → (part e cs off).run P w = .ok v w := by
    intro cs off v h
    simp [part, isAgg, run_underlying he, h]
  rw [Op.equalIn]
  simp only [Sem.run_bind, run_underlying hu, Result.andThen_ok, ho, Std.Legacy.Range.forIn_eq_forIn_range', Std.Legacy.Range.size, List.range']
  simp [hp, eqi]
  by_cases h1 : x = x' <;> by_cases h2 : y = y' <;> by_cases h3 : z = z' <;> simp [h1, h2, h3, hp, eqi]
def mkEs {κ : Type} (ka : κ → Value) (L : List (κ × Value)) : Array MapEntry := (L.mapIdx (fun i p => ({ key := ka p.1, val := p.2, born := i } : MapEntry))).toArray
structure KeyOk {κ : Type} [DecidableEq κ] (P : Program) (kt : TypeId) (ka : κ → Value) : Prop where
  find : ∀ (k : κ) (L : List (κ × Value)) (w : World), ((∀ p, p ∈ L → p.1 ≠ k) ∧ (Instr.findKey kt (ka k) (mkEs ka L).toList).run P w = .ok none w) ∨ ∃ i p, L[i]? = some p ∧ p.1 = k ∧ (Instr.findKey kt (ka k) (mkEs ka L).toList).run P w = .ok (some (i, p.2)) w
  same : ∀ k, Instr.sameBits 10000 (ka k) (ka k) = true
  check : ∀ b k w, (Instr.checkKey b 10000 kt (ka k)).run P w = .ok () w
theorem gm_asking {κ : Type} [DecidableEq κ] {P : Program} {kt : TypeId} {ka : κ → Value} (heq : ∀ a b w, (Op.equal kt (ka a) (ka b)).run P w = .ok (decide (a = b)) w) (k : κ) (w : World) :
    ∀ (L : List (κ × Value)) (es : List MapEntry) (o : Nat), es.map (fun e => (e.key, e.val)) = L.map (fun p => (ka p.1, p.2)) → ((∀ p, p ∈ L → p.1 ≠ k) ∧ (Instr.findAsking kt (ka k) es o).run P w = .ok none w) ∨ ∃ i p, L[i]? = some p ∧ p.1 = k ∧ (Instr.findAsking kt (ka k) es o).run P w = .ok (some (o + i, p.2)) w
  | [], es, o, h => by
    have : es = [] := by simpa using h
    subst this
    exact .inl ⟨by simp, by simp [Instr.findAsking]⟩
  | p :: t, es, o, h => by
    obtain ⟨e, et, rfl⟩ : ∃ e et, es = e :: et := by
      cases es with
      | nil => simp at h
      | cons e et => exact ⟨e, et, rfl⟩
    simp only [List.map_cons, List.cons.injEq, Prod.mk.injEq] at h
    obtain ⟨⟨h1, h2⟩, h3⟩ := h
    by_cases c : k = p.1
    · subst c
      refine .inr ⟨0, p, rfl, rfl, ?_⟩
      simp [Instr.findAsking, h1, heq, h2]
    · have hk : ∀ w, (Op.equal kt (ka k) e.key).run P w = .ok false w := fun w => by rw [h1, heq, decide_eq_false c]
      rcases gm_asking heq k w t et (o + 1) h3 with ⟨g1, g2⟩ | ⟨i, q, g1, g2, g3⟩
      · refine .inl ⟨?_, by simp [Instr.findAsking, hk, g2]⟩
        intro q hq
        rcases List.mem_cons.1 hq with rfl | hq
        · exact fun h => c h.symm
        · exact g1 q hq
      · exact .inr ⟨i + 1, q, by simpa using g1, g2, by simp [Instr.findAsking, hk, g3]; omega⟩
theorem mkEs_pairs {κ : Type} (ka : κ → Value) (L : List (κ × Value)) : (mkEs ka L).toList.map (fun e => (e.key, e.val)) = L.map (fun p => (ka p.1, p.2)) := by
  unfold mkEs
  apply List.ext_getElem?
  intro i
  simp
  rfl
theorem mkEs_size {κ : Type} (ka : κ → Value) (L : List (κ × Value)) : (mkEs ka L).size = L.length := by simp [mkEs]
theorem mkEs_get {κ : Type} (ka : κ → Value) (L : List (κ × Value)) (i : Nat) (p : κ × Value) (h : L[i]? = some p) : (mkEs ka L)[i]? = some { key := ka p.1, val := p.2, born := i } := by simp [mkEs, h]
theorem mkEs_push {κ : Type} (ka : κ → Value) (L : List (κ × Value)) (k : κ) (v : Value) : (mkEs ka L).push { key := ka k, val := v, born := L.length } = mkEs ka (L ++ [(k, v)]) := by
  unfold mkEs
  simp [List.mapIdx_append]
theorem mkEs_val {κ : Type} (ka : κ → Value) (L : List (κ × Value)) (i : Nat) (k : κ) (u v : Value) (h : L[i]? = some (k, u)) : (mkEs ka L).modify i (fun e => { e with val := v }) = mkEs ka (L.set i (k, v)) := by
  apply Array.ext_getElem?
  intro j
  rw [Array.getElem?_modify]
  obtain ⟨hl, he⟩ := List.getElem?_eq_some_iff.1 h
  by_cases c : i = j
  · subst c
    simp [mkEs, h, hl, he]
  · simp [mkEs, c]
theorem mkEs_key {κ : Type} (ka : κ → Value) (L : List (κ × Value)) (i : Nat) (k : κ) (u : Value) (h : L[i]? = some (k, u)) : (mkEs ka L).modify i (fun e => { e with key := ka k }) = mkEs ka L := by
  apply Array.ext_getElem?
  intro j
  rw [Array.getElem?_modify]
  by_cases c : i = j
  · subst c
    simp [mkEs, h]
  · simp [c]
theorem mkEs_born {κ : Type} (ka : κ → Value) (L : List (κ × Value)) (i : Nat) (h : i < L.length) : (mkEs ka L).findIdx? (fun e => (e.born : Int) == (i : Int)) = some i := by
  rw [Array.findIdx?_eq_some_iff_findIdx_eq]
  refine ⟨by rw [mkEs_size]; exact h, ?_⟩
  rw [Array.findIdx_eq (by rw [mkEs_size]; exact h)]
  refine ⟨?_, fun j hj => ?_⟩
  · simp [mkEs]
  · simp [mkEs]
    omega
def ka3 (k : Int × Int × Int) : Value := .agg #[.int .u8 k.1, .int .u8 k.2.1, .int .u8 k.2.2]
theorem key3_ok {P : Program} (kt e : TypeId) (hu : P.underlying kt = some (.array 3 e)) (he : P.underlying e = some (.int .u8)) (hs : (P.info? e).map (fun i => (i.zero, i.size, i.bytes)) = some (some (.int .u8 0), 1, 1)) :
    KeyOk P kt ka3 := by
  obtain ⟨i0, hi, _, hsz, _⟩ := info_parts hs
  have ho : ∀ w, (sizeOf e).run P w = .ok 1 w := fun w => by simp [sizeOf, typeInfo, hi, hsz]
  have hp : ∀ (cs : Array Value) (off : Nat) (v : Value) w, cs[off]? = some v → (part e cs off).run P w = .ok v w := by
    intro cs off v w h
    simp [part, isAgg, run_underlying he, h]
  have heq : ∀ (a b : Int × Int × Int) w, (Op.equal kt (ka3 a) (ka3 b)).run P w = .ok (decide (a = b)) w := by
    intro a b w
    unfold ka3
    rw [Op.equal, show Op.maxDepth = 9998 + 2 from rfl, gm_eq3 w 9998 kt e hu he hs]
    congr 1
    obtain ⟨x, y, z⟩ := a
    obtain ⟨x', y', z'⟩ := b
    by_cases h1 : x = x' <;> by_cases h2 : y = y' <;> by_cases h3 : z = z' <;> simp [h1, h2, h3]
  refine ⟨fun k L w => ?_, fun k => ?_, fun b k w => ?_⟩
  · cases L with
    | nil => exact .inl ⟨by simp, by simp [Instr.findKey, run_underlying hu, mkEs, Instr.findNow]⟩
    | cons p t =>
      have hr : ∀ es : List MapEntry, es ≠ [] → (Instr.findKey kt (ka3 k) es).run P w = (Instr.findAsking kt (ka3 k) es).run P w := by
        intro es hne
        cases es with
        | nil => exact absurd rfl hne
        | cons e es => simp [Instr.findKey, run_underlying hu, Instr.findNow, Instr.sameNow]
      have hne : (mkEs ka3 (p :: t)).toList ≠ [] := by simp [mkEs]
      rw [hr _ hne]
      rcases gm_asking (P := P) heq k w (p :: t) _ 0 (mkEs_pairs ka3 (p :: t)) with ⟨g1, g2⟩ | ⟨i, q, g1, g2, g3⟩
      · exact .inl ⟨g1, g2⟩
      · exact .inr ⟨i, q, g1, g2, by simpa using g3⟩
  · show Instr.sameBits (9998 + 2) _ _ = true
    simp [ka3, Instr.sameBits]
  · show (Instr.checkKey b (9998 + 2) _ _).run P w = _
    rw [ka3, Instr.checkKey]
    have hc : ∀ (x : Int), (Instr.checkKey b (9998 + 1) e (.int .u8 x)).run P w = .ok () w := fun x => by
      rw [Instr.checkKey]
      simp [run_underlying he]
    simp only [Sem.run_bind, run_underlying hu, Result.andThen_ok, ho, Std.Legacy.Range.forIn_eq_forIn_range', Std.Legacy.Range.size, List.range']
    simp [hp, hc, ho]
theorem gm_get {P : Program} {w : World} {m : Nat} {es : Array MapEntry} {c : Nat} (h : w.heap[m]? = some (.map es c)) : (getObj m).run P w = .ok (.map es c) w := by simp [getObj, Sem.run, h]
theorem gm_set {P : Program} {w : World} {m : Nat} {es : Array MapEntry} {c : Nat} (h : w.heap[m]? = some (.map es c)) (o : Obj) : (setObj m o).run P w = .ok () { w with heap := w.heap.setIfInBounds m o } := by simp [setObj, Sem.run, h]
def gval {κ : Type} [DecidableEq κ] {β : Type} (g : κ → List β) (k : κ) (v : List β) : κ → List β := fun k' => if k' = k then v else g k'
/-- block m is a map whose elements are rows of numbers (type et) of the call's own, from base on; at key k it holds g k -/
def GM {κ : Type} (w : World) (ka : κ → Value) (m et base : Nat) (g : κ → List Int) : Prop :=
  ∃ L : List (κ × Value), w.heap[m]? = some (.map (mkEs ka L) L.length) ∧ (L.map Prod.fst).Nodup ∧ (∀ p, p ∈ L → w.ownsRow base et 1 p.2 (g p.1).length (nums .i64 (g p.1))) ∧ (∀ k, (∀ p, p ∈ L → p.1 ≠ k) → g k = []) ∧ L.Pairwise (fun p q => p.2.ownBlock = none ∨ p.2.ownBlock ≠ q.2.ownBlock)
structure SameTy (w w1 : World) (m et : Nat) : Prop where
  map : ∀ o : Obj, w.heap[m]? = some o → w1.heap[m]? = some o
  row : ∀ (b : Nat) (cs : Array Value), w.heap[b]? = some (Obj.cells cs et (0, 0)) → w1.heap[b]? = some (Obj.cells cs et (0, 0))
theorem SameTy.refl (w : World) (m et : Nat) : SameTy w w m et := ⟨fun _ h => h, fun _ _ h => h⟩
theorem SameTy.trans {a b c : World} {m et : Nat} (h : SameTy a b m et) (k : SameTy b c m et) : SameTy a c m et := ⟨fun o x => k.map o (h.map o x), fun b cs x => k.row b cs (h.row b cs x)⟩
theorem SameTy.of_grown {w w1 : World} {m et : Nat} {row : Option Nat} (hg : w.grownBy w1 row) (hm : some m ≠ row) (hr : ∀ b, row = some b → ∀ cs, w.heap[b]? ≠ some (.cells cs et (0, 0))) : SameTy w w1 m et :=
  ⟨fun o h => (hg.block m (Array.getElem?_eq_some_iff.1 h).1 hm).trans h, fun b cs h => (hg.block b (Array.getElem?_eq_some_iff.1 h).1 (fun e => hr b e.symm cs h)).trans h⟩
theorem GM.same {κ : Type} {w w1 : World} {ka : κ → Value} {m et base : Nat} {g : κ → List Int} (h : GM w ka m et base g) (hs : SameTy w w1 m et) : GM w1 ka m et base g := by
  obtain ⟨L, h1, h2, h3, h4, h5⟩ := h
  refine ⟨L, hs.map _ h1, h2, fun p hp => ?_, h4, h5⟩
  exact own_move (h3 p hp) (fun k hk => by
    obtain ⟨cs, hc⟩ := own_typed (h3 p hp) k hk
    rw [hc]; exact hs.row k cs hc)
theorem nodup_get {κ : Type} {L : List (κ × Value)} (h : (L.map Prod.fst).Nodup) {i j : Nat} {p q : κ × Value} (hi : L[i]? = some p) (hj : L[j]? = some q) (he : p.1 = q.1) : i = j := by
  obtain ⟨hi1, hi2⟩ := List.getElem?_eq_some_iff.1 hi
  obtain ⟨hj1, hj2⟩ := List.getElem?_eq_some_iff.1 hj
  have h1 : (L.map Prod.fst)[i]'(by simpa using hi1) = (L.map Prod.fst)[j]'(by simpa using hj1) := by simp [hi2, hj2, he]
  rcases Nat.lt_trichotomy i j with c | c | c
  · exact absurd h1 ((List.pairwise_iff_getElem.1 h) i j (by simpa using hi1) (by simpa using hj1) c)
  · exact c
  · exact absurd h1.symm ((List.pairwise_iff_getElem.1 h) j i (by simpa using hj1) (by simpa using hi1) c)
theorem GM.lookup {κ : Type} [DecidableEq κ] {P : Program} {kt mt E : TypeId} {w : World} {ka : κ → Value} {m et base : Nat} {g : κ → List Int} (h : GM w ka m et base g) (K : KeyOk P kt ka) (ht : P.underlying mt = some (.map kt E)) (hz : ∀ w, (zeroValue E).run P w = .ok (.slice none 0 0) w) (k : κ) :
    ∃ v, (Instr.lookup mt (.map (some m)) (ka k) false).run P w = .ok v w ∧ w.ownsRow base et 1 v (g k).length (nums .i64 (g k)) := by
  obtain ⟨L, h1, h2, h3, h4, h5⟩ := h
  rcases K.find k L w with ⟨g1, g2⟩ | ⟨i, p, g1, g2, g3⟩
  · refine ⟨.slice none 0 0, ?_, ?_⟩
    · simp only [Instr.lookup, Sem.run_bind, run_underlying ht, Result.andThen_ok]
      simp [gm_get h1, gm_set h1, K.check, g2, hz]
    · rw [h4 k g1]
      exact World.ownsRow_nil _ _ _ _
  · refine ⟨p.2, ?_, ?_⟩
    · simp only [Instr.lookup, Sem.run_bind, run_underlying ht, Result.andThen_ok]
      simp [gm_get h1, gm_set h1, K.check, g3]
    · rw [← g2]
      exact h3 p (List.mem_of_getElem? g1)
theorem setObj_same (w : World) (m : Nat) (o : Obj) (h : w.heap[m]? = some o) : ({ w with heap := w.heap.setIfInBounds m o } : World) = w := by
  have : w.heap.setIfInBounds m o = w.heap := by
    apply Array.ext_getElem?
    intro j
    rw [Array.getElem?_setIfInBounds]
    split
    · rename_i e
      subst e
      split
      · exact h.symm
      · rename_i hn
        rw [Array.getElem?_eq_none (by omega)]
    · rfl
  rw [this]
/-- behind 'm[k] (for an append)': the entry stands at place i -/
def GMAt {κ : Type} (w : World) (ka : κ → Value) (m et base : Nat) (g : κ → List Int) (i : Nat) (k : κ) (v : Value) : Prop :=
  ∃ L : List (κ × Value), w.heap[m]? = some (.map (mkEs ka L) L.length) ∧ (L.map Prod.fst).Nodup ∧ (∀ p, p ∈ L → w.ownsRow base et 1 p.2 (g p.1).length (nums .i64 (g p.1))) ∧ (∀ k, (∀ p, p ∈ L → p.1 ≠ k) → g k = []) ∧ L.Pairwise (fun p q => p.2.ownBlock = none ∨ p.2.ownBlock ≠ q.2.ownBlock) ∧ L[i]? = some (k, v)
theorem GM.entry {κ : Type} [DecidableEq κ] {P : Program} {kt mt E : TypeId} {w : World} {ka : κ → Value} {m et base : Nat} {g : κ → List Int} (h : GM w ka m et base g) (K : KeyOk P kt ka) (ht : P.underlying mt = some (.map kt E)) (hz : ∀ w, (zeroValue E).run P w = .ok (.slice none 0 0) w) (k : κ) :
    ∃ v i w1, (Instr.mapEntry mt (.map (some m)) (ka k)).run P w = .ok (.tuple #[v, .int .i64 (i : Nat)]) w1 ∧ GMAt w1 ka m et base g i k v ∧ w.grownBy w1 (some m) ∧ w1.heap.size = w.heap.size := by
  obtain ⟨L, h1, h2, h3, h4, h5⟩ := h
  have hlt := (Array.getElem?_eq_some_iff.1 h1).1
  rcases K.find k L w with ⟨g1, g2⟩ | ⟨i, p, g1, g2, g3⟩
  · refine ⟨.slice none 0 0, L.length, { w with heap := w.heap.setIfInBounds m (.map (mkEs ka (L ++ [(k, .slice none 0 0)])) (L ++ [(k, (.slice none 0 0 : Value))]).length) }, ?_, ?_, ?_, by simp⟩
    · simp only [Instr.mapEntry, Sem.run_bind, run_underlying ht, Result.andThen_ok]
      simp [gm_get h1, gm_set h1, K.check, g2, hz, goInt, mkEs_push]
    · have hb : ∀ b, b ≠ m → (w.heap.setIfInBounds m (.map (mkEs ka (L ++ [(k, .slice none 0 0)])) (L ++ [(k, (.slice none 0 0 : Value))]).length))[b]? = w.heap[b]? := fun b hb => by rw [Array.getElem?_setIfInBounds]; simp [Ne.symm hb]
      refine ⟨L ++ [(k, .slice none 0 0)], by simp [Array.getElem?_setIfInBounds, hlt], ?_, ?_, ?_, ?_, by simp⟩
      · rw [List.map_append, List.nodup_append]
        refine ⟨h2, by simp, fun a ha b hb => ?_⟩
        obtain ⟨p, hp, rfl⟩ := List.mem_map.1 ha
        simp at hb
        subst hb
        exact g1 p hp
      · intro p hp
        rcases List.mem_append.1 hp with hp | hp
        · exact own_move (h3 p hp) (fun b hbk => hb b (fun e => by
            obtain ⟨cs, hc⟩ := own_typed (h3 p hp) b hbk
            rw [e, h1] at hc
            cases hc))
        · simp at hp
          subst hp
          rw [h4 k g1]
          exact World.ownsRow_nil _ _ _ _
      · intro k' hk'
        exact h4 k' (fun p hp => hk' p (List.mem_append_left _ hp))
      · rw [List.pairwise_append]
        refine ⟨h5, by simp, fun p _ q hq => ?_⟩
        simp at hq
        subst hq
        cases p.2.ownBlock <;> simp [Value.ownBlock]
    · exact ⟨rfl, rfl, rfl, by simp, fun b _ hne => by show (w.heap.setIfInBounds _ _)[b]? = _; rw [Array.getElem?_setIfInBounds]; simp; intro e; exact absurd (by rw [e]) hne⟩
  · obtain ⟨k0, v⟩ := p
    simp only at g2
    subst g2
    refine ⟨v, i, w, ?_, ⟨L, h1, h2, h3, h4, h5, g1⟩, ⟨rfl, rfl, rfl, Nat.le_refl _, fun _ _ _ => rfl⟩, rfl⟩
    have hk : Instr.keyThatStays (ka k0) (ka k0) = (pure (ka k0) : Sem Value) := by simp [Instr.keyThatStays, K.same]
    simp only [Instr.mapEntry, Sem.run_bind, run_underlying ht, Result.andThen_ok]
    simp [gm_get h1, gm_set h1, K.check, g3, goInt, mkEs_get ka L i _ g1, hk, mkEs_key ka L i k0 v g1]
    exact setObj_same w m _ h1
theorem GMAt.row {κ : Type} {w : World} {ka : κ → Value} {m et base i : Nat} {g : κ → List Int} {k : κ} {v : Value} (h : GMAt w ka m et base g i k v) : w.ownsRow base et 1 v (g k).length (nums .i64 (g k)) := by
  obtain ⟨L, h1, h2, h3, h4, h5, h6⟩ := h
  exact h3 (k, v) (List.mem_of_getElem? h6)
theorem GMAt.store {κ : Type} [DecidableEq κ] {P : Program} {mt : TypeId} {w w1 : World} {ka : κ → Value} {m et base i : Nat} {g : κ → List Int} {k : κ} {v v' : Value} {zs : List Int} (h : GMAt w ka m et base g i k v) (hg : w.grownBy w1 v.ownBlock) (ho : w1.ownsRow base et 1 v' zs.length (nums .i64 zs)) (hat : v'.ownBlock = v.ownBlock ∨ ∃ b, v'.ownBlock = some b ∧ w.heap.size ≤ b) :
    ∃ w2, (Instr.entryStore mt (.map (some m)) (.int .i64 (i : Nat)) v').run P w1 = .ok () w2 ∧ GM w2 ka m et base (gval g k zs) ∧ w1.grownBy w2 (some m) := by
  obtain ⟨L, h1, h2, h3, h4, h5, h6⟩ := h
  have hlt := (Array.getElem?_eq_some_iff.1 h1).1
  have hil := (List.getElem?_eq_some_iff.1 h6).1
  have hrow := h3 (k, v) (List.mem_of_getElem? h6)
  have hmv : some m ≠ v.ownBlock := fun e => by
    obtain ⟨cs, hc⟩ := own_typed hrow m e.symm
    rw [h1] at hc
    cases hc
  have h1' : w1.heap[m]? = some (.map (mkEs ka L) L.length) := (hg.block m hlt hmv).trans h1
  have hlt1 := (Array.getElem?_eq_some_iff.1 h1').1
  have hmv' : some m ≠ v'.ownBlock := fun e => by
    obtain ⟨cs, hc⟩ := own_typed ho m e.symm
    rw [h1'] at hc
    cases hc
  have hlen : (L.set i (k, v')).length = L.length := by simp
  have hb : ∀ b, b ≠ m → (w1.heap.setIfInBounds m (.map (mkEs ka (L.set i (k, v'))) L.length))[b]? = w1.heap[b]? := fun b hb => by rw [Array.getElem?_setIfInBounds]; simp [Ne.symm hb]
  have far : ∀ j q, L[j]? = some q → j ≠ i → q.2.ownBlock = none ∨ (q.2.ownBlock ≠ v.ownBlock ∧ q.2.ownBlock ≠ v'.ownBlock) := by
    intro j q hj hne
    cases hq : q.2.ownBlock with
    | none => exact .inl rfl
    | some b =>
      have h7 : some b ≠ v.ownBlock := by
        have hp := List.pairwise_iff_getElem.1 h5
        obtain ⟨hjl, hje⟩ := List.getElem?_eq_some_iff.1 hj
        obtain ⟨_, hie⟩ := List.getElem?_eq_some_iff.1 h6
        rcases Nat.lt_or_gt_of_ne hne with c | c
        · rcases hp j i hjl hil c with e | e
          · rw [hje, hq] at e; cases e
          · rw [hje, hq, hie] at e; exact e
        · rcases hp i j hil hjl c with e | e
          · rw [hie] at e; rw [e]; simp
          · rw [hje, hq, hie] at e; exact fun x => e x.symm
      refine .inr ⟨h7, ?_⟩
      rcases hat with e | ⟨b', e, hb'⟩
      · rw [e]; exact h7
      · rw [e]
        have := own_lt (h3 q (List.mem_of_getElem? hj)) b hq
        intro x
        cases x
        omega
  refine ⟨{ w1 with heap := w1.heap.setIfInBounds m (.map (mkEs ka (L.set i (k, v'))) L.length) }, ?_, ⟨L.set i (k, v'), by simp [Array.getElem?_setIfInBounds, hlt1], ?_, ?_, ?_, ?_⟩, ⟨rfl, rfl, rfl, by simp, fun b _ hne => hb b (fun e => hne (by rw [e]))⟩⟩
  · simp [Instr.entryStore, gm_get h1', gm_set h1', asInt, asIntOf, mkEs_born ka L i hil, mkEs_val ka L i k v v' h6]
  · have : (L.set i (k, v')).map Prod.fst = L.map Prod.fst := by
      apply List.ext_getElem?
      intro j
      simp only [List.getElem?_map, List.getElem?_set]
      by_cases c : i = j
      · subst c
        obtain ⟨_, he⟩ := List.getElem?_eq_some_iff.1 h6
        simp [h6, hil, he]
      · simp [c]
    rw [this]
    exact h2
  · intro p hp
    obtain ⟨j, hj⟩ := List.getElem?_of_mem hp
    rw [List.getElem?_set] at hj
    by_cases c : i = j
    · subst c
      rw [if_pos rfl, if_pos hil] at hj
      cases hj
      show World.ownsRow _ base et 1 v' (gval g k zs k).length (nums .i64 (gval g k zs k))
      rw [show gval g k zs k = zs by simp [gval]]
      exact own_move ho (fun b hbk => hb b (fun e => hmv' (by rw [hbk, e])))
    · rw [if_neg c] at hj
      have hne : p.1 ≠ k := fun e => c (nodup_get h2 h6 hj e.symm)
      rw [show gval g k zs p.1 = g p.1 by simp [gval, hne]]
      have hpo := h3 p (List.mem_of_getElem? hj)
      have h8 := far j p hj (Ne.symm c)
      exact own_move hpo (fun b hbk => by
        have hbm : b ≠ m := fun e => by
          obtain ⟨cs, hc⟩ := own_typed hpo b hbk
          rw [e, h1] at hc
          cases hc
        refine (hb b hbm).trans (hg.block b (own_lt hpo b hbk) ?_)
        rcases h8 with e | e
        · rw [e] at hbk; cases hbk
        · rw [hbk] at e; exact e.1)
  · intro k' hk'
    have hk0 : k' ≠ k := fun e => hk' (k, v') (List.mem_of_getElem? (i := i) (by simp [hil])) e.symm
    rw [show gval g k zs k' = g k' by simp [gval, hk0]]
    refine h4 k' (fun p hp => ?_)
    obtain ⟨j, hj⟩ := List.getElem?_of_mem hp
    by_cases c : i = j
    · subst c
      rw [h6] at hj
      cases hj
      exact Ne.symm hk0
    · exact hk' p (List.mem_of_getElem? (i := j) (by rw [List.getElem?_set, if_neg c]; exact hj))
  · rw [List.pairwise_iff_getElem]
    intro a b ha hb' hab
    have ha' : a < L.length := by simpa using ha
    have hb2 : b < L.length := by simpa using hb'
    rw [List.getElem_set, List.getElem_set]
    have hp := List.pairwise_iff_getElem.1 h5 a b ha' hb2 hab
    by_cases ca : i = a
    · subst ca
      rw [if_pos rfl, if_neg (by omega)]
      rcases far b L[b] (List.getElem?_eq_getElem hb2) (by omega) with e | e
      · cases hv : v'.ownBlock with
        | none => exact .inl rfl
        | some x => exact .inr (by rw [e]; simp)
      · exact .inr (Ne.symm e.2)
    · rw [if_neg ca]
      by_cases cb : i = b
      · subst cb
        rw [if_pos rfl]
        rcases far a L[a] (List.getElem?_eq_getElem ha') (by omega) with e | e
        · exact .inl e
        · exact .inr e.2
      · rw [if_neg cb]
        exact hp
theorem keystr_ok {P : Program} (kt : TypeId) (hu : P.underlying kt = some .string) : KeyOk P kt Value.string := by
  refine ⟨fun k L w => ?_, fun k => ?_, fun b k w => ?_⟩
  · have key : ∀ (L : List (ByteArray × Value)) (es : List MapEntry) (o : Nat), es.map (fun e => (e.key, e.val)) = L.map (fun p => (Value.string p.1, p.2)) → ((∀ p, p ∈ L → p.1 ≠ k) ∧ Instr.findNow .string (.string k) es o = some none) ∨ ∃ i p, L[i]? = some p ∧ p.1 = k ∧ Instr.findNow .string (.string k) es o = some (some (o + i, p.2)) := by
      intro L
      induction L with
      | nil =>
        intro es o h
        have : es = [] := by simpa using h
        subst this
        exact .inl ⟨by simp, rfl⟩
      | cons p t ih =>
        intro es o h
        obtain ⟨e, et, rfl⟩ : ∃ e et, es = e :: et := by
          cases es with
          | nil => simp at h
          | cons e et => exact ⟨e, et, rfl⟩
        simp only [List.map_cons, List.cons.injEq, Prod.mk.injEq] at h
        obtain ⟨⟨h1, h2⟩, h3⟩ := h
        by_cases c : k = p.1
        · have hbb : (k == p.1) = true := (MapKept.bytes_beq k p.1).2 c
          exact .inr ⟨0, p, rfl, c.symm, by simp only [Instr.findNow, h1, Instr.sameNow, hbb, h2]; rfl⟩
        · have hne : (k == p.1) = false := by
            rw [Bool.eq_false_iff]
            exact fun h => c ((MapKept.bytes_beq k p.1).1 h)
          rcases ih et (o + 1) h3 with ⟨g1, g2⟩ | ⟨i, q, g1, g2, g3⟩
          · refine .inl ⟨?_, by simp only [Instr.findNow, h1, Instr.sameNow, hne]; exact g2⟩
            intro q hq
            rcases List.mem_cons.1 hq with rfl | hq
            · exact fun h => c h.symm
            · exact g1 q hq
          · exact .inr ⟨i + 1, q, by simpa using g1, g2, by simp only [Instr.findNow, h1, Instr.sameNow, hne]; rw [g3]; congr 3; omega⟩
    rcases key L _ 0 (mkEs_pairs Value.string L) with ⟨g1, g2⟩ | ⟨i, p, g1, g2, g3⟩
    · exact .inl ⟨g1, by simp [Instr.findKey, run_underlying hu, g2]⟩
    · exact .inr ⟨i, p, g1, g2, by simp [Instr.findKey, run_underlying hu, g3]⟩
  · show Instr.sameBits (9999 + 1) _ _ = true
    simp only [Instr.sameBits]
    exact (MapKept.bytes_beq k k).2 rfl
  · show (Instr.checkKey b (9999 + 1) _ _).run P w = _
    rw [Instr.checkKey]
    simp [run_underlying hu]
/-- behind 'm[k]': what stands at k is v -/
def GMV {κ : Type} (w : World) (ka : κ → Value) (m et base : Nat) (g : κ → List Int) (k : κ) (v : Value) : Prop :=
  ∃ L : List (κ × Value), w.heap[m]? = some (.map (mkEs ka L) L.length) ∧ (L.map Prod.fst).Nodup ∧ (∀ p, p ∈ L → w.ownsRow base et 1 p.2 (g p.1).length (nums .i64 (g p.1))) ∧ (∀ k, (∀ p, p ∈ L → p.1 ≠ k) → g k = []) ∧ L.Pairwise (fun p q => p.2.ownBlock = none ∨ p.2.ownBlock ≠ q.2.ownBlock) ∧ ((∃ i : Nat, L[i]? = some (k, v)) ∨ (∀ p, p ∈ L → p.1 ≠ k) ∧ v = .slice none 0 0)
theorem GM.value {κ : Type} [DecidableEq κ] {P : Program} {kt mt E : TypeId} {w : World} {ka : κ → Value} {m et base : Nat} {g : κ → List Int} (h : GM w ka m et base g) (K : KeyOk P kt ka) (ht : P.underlying mt = some (.map kt E)) (hz : ∀ w, (zeroValue E).run P w = .ok (.slice none 0 0) w) (k : κ) :
    ∃ v, (Instr.lookup mt (.map (some m)) (ka k) false).run P w = .ok v w ∧ GMV w ka m et base g k v ∧ w.ownsRow base et 1 v (g k).length (nums .i64 (g k)) := by
  obtain ⟨L, h1, h2, h3, h4, h5⟩ := h
  rcases K.find k L w with ⟨g1, g2⟩ | ⟨i, p, g1, g2, g3⟩
  · refine ⟨.slice none 0 0, ?_, ⟨L, h1, h2, h3, h4, h5, .inr ⟨g1, rfl⟩⟩, ?_⟩
    · simp only [Instr.lookup, Sem.run_bind, run_underlying ht, Result.andThen_ok]
      simp [gm_get h1, K.check, g2, hz]
    · rw [h4 k g1]
      exact World.ownsRow_nil _ _ _ _
  · obtain ⟨k0, v⟩ := p
    simp only at g2
    subst g2
    refine ⟨v, ?_, ⟨L, h1, h2, h3, h4, h5, .inl ⟨i, g1⟩⟩, h3 (k0, v) (List.mem_of_getElem? g1)⟩
    simp only [Instr.lookup, Sem.run_bind, run_underlying ht, Result.andThen_ok]
    simp [gm_get h1, K.check, g3]
theorem GMV.store {κ : Type} [DecidableEq κ] {P : Program} {kt mt E : TypeId} {w w1 : World} {ka : κ → Value} {m et base : Nat} {g : κ → List Int} {k : κ} {v v' : Value} {zs : List Int} (h : GMV w ka m et base g k v) (K : KeyOk P kt ka) (ht : P.underlying mt = some (.map kt E)) (hg : w.grownBy w1 v.ownBlock) (ho : w1.ownsRow base et 1 v' zs.length (nums .i64 zs)) (hat : v'.ownBlock = v.ownBlock ∨ ∃ b, v'.ownBlock = some b ∧ w.heap.size ≤ b) :
    ∃ w2, (Instr.mapUpdate mt (.map (some m)) (ka k) v').run P w1 = .ok () w2 ∧ GM w2 ka m et base (gval g k zs) ∧ w1.grownBy w2 (some m) := by
  obtain ⟨L, h1, h2, h3, h4, h5, h6⟩ := h
  have hlt := (Array.getElem?_eq_some_iff.1 h1).1
  rcases h6 with ⟨i, h6⟩ | ⟨h6, rfl⟩
  · have hG : GMAt w ka m et base g i k v := ⟨L, h1, h2, h3, h4, h5, h6⟩
    obtain ⟨w2, hrun, hgm, hgr⟩ := hG.store (P := P) (mt := mt) hg ho hat
    refine ⟨w2, ?_, hgm, hgr⟩
    have hmv : some m ≠ v.ownBlock := fun e => by
      obtain ⟨cs, hc⟩ := own_typed hG.row m e.symm
      rw [h1] at hc
      cases hc
    have h1' : w1.heap[m]? = some (.map (mkEs ka L) L.length) := (hg.block m hlt hmv).trans h1
    have hil := (List.getElem?_eq_some_iff.1 h6).1
    have hk : Instr.keyThatStays (ka k) (ka k) = (pure (ka k) : Sem Value) := by simp [Instr.keyThatStays, K.same]
    rcases K.find k L w1 with ⟨g1, g2⟩ | ⟨j, p, g1, g2, g3⟩
    · exact absurd rfl (g1 (k, v) (List.mem_of_getElem? h6))
    · have hj : j = i := nodup_get h2 g1 h6 g2
      subst hj
      rw [h6] at g1
      cases g1
      simp only [Instr.mapUpdate, Sem.run_bind, run_underlying ht, Result.andThen_ok]
      simp [Instr.entryStore, gm_get h1', gm_set h1', asInt, asIntOf, mkEs_born ka L j hil, mkEs_val ka L j k v v' h6] at hrun
      have hmod : (mkEs ka L).modify j (fun e => { key := ka k, val := v', born := e.born }) = mkEs ka (L.set j (k, v')) := by
        rw [← mkEs_val ka L j k v v' h6]
        apply Array.ext_getElem?
        intro q
        rw [Array.getElem?_modify, Array.getElem?_modify]
        by_cases c : j = q
        · subst c
          simp [mkEs_get ka L j (k, v) h6]
        · simp [c]
      simp [gm_get h1', gm_set h1', K.check, g3, mkEs_get ka L j _ h6, hk, hmod]
      exact hrun
  · have h1' : w1.heap[m]? = some (.map (mkEs ka L) L.length) := (hg.block m hlt (by simp [Value.ownBlock])).trans h1
    have hlt1 := (Array.getElem?_eq_some_iff.1 h1').1
    have hnew : ∀ b, v'.ownBlock = some b → w.heap.size ≤ b := by
      intro b hb
      rcases hat with e | ⟨b', e, h⟩
      · rw [e] at hb; simp [Value.ownBlock] at hb
      · rw [e] at hb; cases hb; exact h
    have hb : ∀ b, b ≠ m → (w1.heap.setIfInBounds m (.map (mkEs ka (L ++ [(k, v')])) (L ++ [(k, v')]).length))[b]? = w1.heap[b]? := fun b hb => by rw [Array.getElem?_setIfInBounds]; simp [Ne.symm hb]
    refine ⟨{ w1 with heap := w1.heap.setIfInBounds m (.map (mkEs ka (L ++ [(k, v')])) (L ++ [(k, v')]).length) }, ?_, ⟨L ++ [(k, v')], by simp [Array.getElem?_setIfInBounds, hlt1], ?_, ?_, ?_, ?_⟩, ⟨rfl, rfl, rfl, by simp, fun b _ hne => hb b (fun e => hne (by rw [e]))⟩⟩
    · rcases K.find k L w1 with ⟨g1, g2⟩ | ⟨j, p, g1, g2, g3⟩
      · simp only [Instr.mapUpdate, Sem.run_bind, run_underlying ht, Result.andThen_ok]
        simp [gm_get h1', gm_set h1', K.check, g2, mkEs_push]
      · exact absurd g2 (h6 p (List.mem_of_getElem? g1))
    · rw [List.map_append, List.nodup_append]
      refine ⟨h2, by simp, fun a ha b hb => ?_⟩
      obtain ⟨p, hp, rfl⟩ := List.mem_map.1 ha
      simp at hb
      subst hb
      exact h6 p hp
    · intro p hp
      rcases List.mem_append.1 hp with hp | hp
      · have hne : p.1 ≠ k := h6 p hp
        rw [show gval g k zs p.1 = g p.1 by simp [gval, hne]]
        have hpo := h3 p hp
        exact own_move hpo (fun b hbk => by
          have hbm : b ≠ m := fun e => by
            obtain ⟨cs, hc⟩ := own_typed hpo b hbk
            rw [e, h1] at hc
            cases hc
          exact (hb b hbm).trans (hg.block b (own_lt hpo b hbk) (by simp [Value.ownBlock])))
      · simp at hp
        subst hp
        show World.ownsRow _ base et 1 v' (gval g k zs k).length (nums .i64 (gval g k zs k))
        rw [show gval g k zs k = zs by simp [gval]]
        exact own_move ho (fun b hbk => hb b (fun e => by
          obtain ⟨cs, hc⟩ := own_typed ho b hbk
          rw [e, h1'] at hc
          cases hc))
    · intro k' hk'
      have hk0 : k' ≠ k := fun e => hk' (k, v') (by simp) e.symm
      rw [show gval g k zs k' = g k' by simp [gval, hk0]]
      exact h4 k' (fun p hp => hk' p (List.mem_append_left _ hp))
    · rw [List.pairwise_append]
      refine ⟨h5, by simp, fun p hp q hq => ?_⟩
      simp at hq
      subst hq
      cases hpb : p.2.ownBlock with
      | none => exact .inl rfl
      | some b =>
        refine .inr (fun e => ?_)
        have h7 := hnew b e.symm
        have h8 := own_lt (h3 p hp) b hpb
        omega
section
variable {κ : Type} [DecidableEq κ] {P : Program} {w : World} {ops : Array Oper} {rest : List Oper} {o : Oper} {a : Act} {Q : Exit → Act → World → Prop}
theorem wpList_gm_value (hgd : o.guard = none) (mo xo : Operand) (mt kt E : TypeId) (hop : o.op = .lookup mt mo xo false) {ka : κ → Value} {m et base : Nat} {g : κ → List Int} (K : KeyOk P kt ka) (ht : P.underlying mt = some (.map kt E)) (hz : ∀ w, (zeroValue E).run P w = .ok (.slice none 0 0) w)
    (hm : a.eval mo = .map (some m)) (hG : GM w ka m et base g) (k : κ) (hx : a.eval xo = ka k)
    (h : ∀ v, GMV w ka m et base g k v → w.ownsRow base et 1 v (g k).length (nums .i64 (g k)) → wpList P ops Q rest (a.put o.dst v) w) : wpList P ops Q (o :: rest) a w := by
  obtain ⟨v, hrun, h1, h2⟩ := hG.value K ht hz k
  refine wpList_plain hgd fun K' hK' => ?_
  unfold Oper.wp
  simp [execOp, hop, hm, hx, hrun, Result.andThen]
  exact hK' _ _ (h v h1 h2)
theorem wpList_gm_put (hgd : o.guard = none) (mo xo vo : Operand) (mt kt E : TypeId) (hop : o.op = .mapUpdate mt mo xo vo) {ka : κ → Value} {m et base : Nat} {g : κ → List Int} {w0 : World} {k : κ} {v v' : Value} {zs : List Int} (K : KeyOk P kt ka) (ht : P.underlying mt = some (.map kt E))
    (hm : a.eval mo = .map (some m)) (hx : a.eval xo = ka k) (hv : a.eval vo = v') (hG : GMV w0 ka m et base g k v) (hg : w0.grownBy w v.ownBlock) (ho : w.ownsRow base et 1 v' zs.length (nums .i64 zs)) (hat : v'.ownBlock = v.ownBlock ∨ ∃ b, v'.ownBlock = some b ∧ w0.heap.size ≤ b)
    (h : ∀ w2, GM w2 ka m et base (gval g k zs) → w.grownBy w2 (some m) → wpList P ops Q rest (a.put o.dst undef) w2) : wpList P ops Q (o :: rest) a w := by
  obtain ⟨w2, hrun, h1, h2⟩ := hG.store (P := P) K ht hg ho hat
  refine wpList_plain hgd fun K' hK' => ?_
  unfold Oper.wp
  simp [execOp, hop, hm, hx, hv, hrun, Result.andThen]
  exact hK' _ _ (h w2 h1 h2)
end
theorem hz_info3 : (Try.prog.info? 3).map (fun i => (i.zero, i.size, i.bytes)) = some (some (.int .i64 0), 1, 8) := by kernel_rfl
theorem hz_zero33 (w : World) : (zeroValue 33).run Try.prog w = .ok (.slice none 0 0) w := by kernel_rfl
theorem keyok9 : KeyOk Try.prog 9 Value.string := keystr_ok 9 Try.underlying9
/-- eight bytes from a place on -/
def win (l : List Int) (p : Nat) : List Int := (l.take (p + 8)).drop p
/-- the places ahead of a at which eight bytes stand -/
def sposs (l : List Int) (a : Nat) (k : ByteArray) : List Int := ((List.range a).filter (fun p => decide (strOfNums (win l p) = k))).map (fun p => ((p : Nat) : Int))
theorem sposs_zero (l : List Int) : sposs l 0 = fun _ => [] := rfl
theorem sposs_next (l : List Int) (a : Nat) : gval (sposs l a) (strOfNums (win l a)) (sposs l a (strOfNums (win l a)) ++ [(a : Int)]) = sposs l (a + 1) := by
  funext k
  unfold gval sposs
  rw [List.range_succ, List.filter_append, List.map_append]
  by_cases c : k = strOfNums (win l a)
  · subst c
    rw [if_pos rfl]
    congr 1
    simp
  · rw [if_neg c]
    have : decide (strOfNums (win l a) = k) = false := by
      rw [decide_eq_false_iff_not]
      exact fun h => c h.symm
    rw [List.filter_cons, this]
    simp
theorem sposs_len (l : List Int) (a : Nat) (k : ByteArray) : (sposs l a k).length ≤ a := by
  unfold sposs
  rw [List.length_map]
  exact Nat.le_trans (List.length_filter_le _ _) (by rw [List.length_range]; exact Nat.le_refl _)
theorem sposs_mem (l : List Int) (a : Nat) (k : ByteArray) (z : Int) (h : z ∈ sposs l a k) : 0 ≤ z ∧ z < (a : Int) := by
  unfold sposs at h
  obtain ⟨p, hp, rfl⟩ := List.mem_map.1 h
  have := List.mem_range.1 (List.mem_filter.1 hp).1
  omega
/-- a window, cut, read, and made a string -/
theorem win_cut (A : Option Addr) (c : Nat) (l : List Int) (i : Nat) (h : i + 8 ≤ l.length) (hc : l.length ≤ c) : ∃ A' : Option Addr, (∀ W : World, (Instr.slice 22 (.slice A l.length c) (some (.int .i64 (i : Int))) (some (.int .i64 ((i : Int) + 8))) none).run Try.prog W = .ok (.slice A' 8 (c - i)) W) ∧
    ∀ W : World, Kd.C (Kd.int .u8) W A l.length l → (convert 22 9 (.slice A' 8 (c - i))).run Try.prog W = .ok (.string (strOfNums (win l i))) W := by
  obtain ⟨i0, hi, _, hsz, _⟩ := info_parts info5
  obtain ⟨A', h1, h2, h3⟩ := print_mid_of (P := Try.prog) (Value.int .u8) (0 : Int) 22 5 .i64 .i64 Try.underlying22 hi hsz A c l (i : Int) ((i : Int) + 8) (by omega) (by omega) (by omega) hc
  have e1 : ((i : Int) + 8).toNat = i + 8 := by omega
  rw [Int.toNat_natCast, e1] at h1 h2
  have hl : ((l.take (i + 8)).drop i).length = 8 := by rw [List.length_drop, List.length_take]; omega
  rw [hl] at h1 h2
  refine ⟨A', h1, fun W hC => ?_⟩
  exact Kd.C_string Try.underlying22 Try.underlying5 Try.underlying9 (Kd.C_of_reads (h1 := fun _ => rfl) (h2 W (Kd.reads_of_C hC)))
set_option maxHeartbeats 4000000 in
set_option maxRecDepth 100000 in
theorem seeds_calls (A : Option Addr) (c : Nat) (l : List Int) (w : World) (hC : Kd.C (Kd.int .u8) w A l.length l) (hc : l.length ≤ c) (hl : l.length ≤ 2048) :
    Calls Try.prog 28 #[.slice A l.length c] w fun e w' => e = .returned (.map (some w.heap.size)) ∧ GM w' Value.string w.heap.size 3 (w.heap.size + 1) (sposs l (l.length - 7)) ∧ Below w.heap.size w w' := by
  have HC := Aside0.mk hC
  clear hC
  have hmm := @run_makeMap Try.prog
  obtain ⟨i0, hi, hz0, hz1, hz2⟩ := info_parts hz_info3
  go_enter Try.func28, Try.ntmps28
  go_wp2
  clear hmm
  go_loopw [4] (fun i wr => ∃ a : Nat, a ≤ l.length - 7 ∧ i = .int .i64 (a : Int) ∧ Aside0 (GM wr Value.string w.heap.size 3 (w.heap.size + 1) (sposs l a)) ∧ Aside0 (Below w.heap.size w wr)) (fun i _ => l.length - (intOf i).toNat)
  case atStart =>
    exact ⟨0, Nat.zero_le _, rfl, ⟨⟨[], Array.getElem?_push_size, by simp, by simp, fun _ _ => rfl, by simp⟩⟩, ⟨below_alloc (Below.refl _ _) _⟩⟩
  case round =>
    obtain ⟨a, ha, rfl, HG, HB⟩ := hrel
    by_cases c0 : a + 8 ≤ l.length
    · have c0b : decide ((a : Int) + 8 ≤ (l.length : Int)) = true := decide_eq_true (by omega)
      obtain ⟨A', hcut, hcv⟩ := win_cut A c l a c0 hc
      have hconv := hcv wr (Kd.C_below HC.out HB.out)
      have hsl := sposs_len l a (strOfNums (win l a))
      obtain ⟨k, hk⟩ : ∃ k, strOfNums (win l a) = k := ⟨_, rfl⟩
      have hnext := sposs_next l a
      rw [hk] at hconv hsl hnext
      have HN := Aside0.mk hnext
      clear hcv hk hnext
      go_wp2_with (first
        | (refine wpList_gm_value rfl _ _ 62 9 33 rfl keyok9 Try.underlying62 hz_zero33 rfl HG.out k rfl ?_; intro v hv ho; have HV := Aside0.mk hv; have HO := Aside0.mk ho; clear hv ho)
        | (at_builtin; refine wpList_append_own_at _ rfl _ _ 33 rfl (w.heap.size + 1) 3 i0 (.int .i64 0) 1 8 Try.underlying33 hi hz0 hz1 hz2 rfl (by decide) _ _ _ rfl (HO.out.alloc _) ⟨wr.heap.size, 0, none⟩ 1 1 [.int .i64 a] rfl rfl (cell_one_new _ _ _) (ints_oneCell .i64 [(a : Int)]) ?c3 ?c4 ?c2 ?_; (case c3 => unfold maxLen; omega); (case c4 => omega); (case c2 => have hq := HG.out; obtain ⟨L, hL, _⟩ := hq; have := (Array.getElem?_eq_some_iff.1 hL).1; simp; omega); intro v' w2 hown' hgrow hnil hloc; have HO2 := Aside0.mk hown'; have HGR := Aside0.mk hgrow; have HL := Aside0.mk hloc; clear hown' hgrow hnil hloc)
        | (refine wpList_gm_put rfl _ _ _ 62 9 33 rfl keyok9 Try.underlying62 rfl rfl rfl HV.out ((World.grownBy_alloc _ _ _).trans HGR.out) (zs := sposs l a k ++ [(a : Int)]) (by rw [nums_append, List.length_append]; exact HO2.out) (HL.out.imp id (fun h => ⟨_, h, by simp⟩)) ?_; intro w3 hG3 hg3; have HG3 := Aside0.mk hG3; have HGR3 := Aside0.mk hg3; clear hG3 hg3))
      refine ⟨⟨a + 1, by omega, by go_num, ⟨?_⟩, ⟨?_⟩⟩, by simp [intOf]; omega⟩
      · rw [← HN.out]
        exact HG3.out
      · have hrow := HO.out
        have h1 : Below w.heap.size w w2 := (below_alloc HB.out _).grown HGR.out (below_alloc HB.out _).size (fun j hj => by have := own_base hrow j hj; omega)
        exact h1.grown HGR3.out h1.size (fun j hj => by cases hj; exact Nat.le_refl _)
    · have : a = l.length - 7 := by omega
      subst this
      have c0b : decide (((l.length - 7 : Nat) : Int) + 8 ≤ (l.length : Int)) = false := decide_eq_false (by omega)
      go_wp2
      go_ret
      exact ⟨rfl, HG.out, HB.out⟩
theorem hw64_ {x : Int} (h0 : -9223372036854775808 ≤ x) (h1 : x ≤ 9223372036854775807) : wrap64 x = x := by unfold wrap64; omega
/-- how many bytes two begin with that are the same -/
def alikeN : List Int → List Int → Nat
  | x :: xs, y :: ys => if x = y then alikeN xs ys + 1 else 0
  | _, _ => 0
theorem alikeN_le : ∀ (a b : List Int), alikeN a b ≤ a.length ∧ alikeN a b ≤ b.length
  | [], b => by simp [alikeN]
  | x :: xs, [] => by simp [alikeN]
  | x :: xs, y :: ys => by
    rw [alikeN]
    have := alikeN_le xs ys
    split <;> simp only [List.length_cons] <;> omega
theorem alike_l0 (a b : List Int) (ha : a.length ≤ 5000) (hb : b.length ≤ 5000) : ∀ (m i k : Nat), m = a.length - i → i ≤ a.length → m < k → delta_alike.l0 k a b (i : Int) = some ((i + alikeN (a.drop i) (b.drop i) : Nat) : Int) := by
  intro m
  induction m with
  | zero =>
    intro i k h1 h2 h3
    obtain ⟨k, rfl⟩ : ∃ q, k = q + 1 := ⟨k - 1, by omega⟩
    rw [delta_alike.l0, if_neg (by omega), List.drop_eq_nil_of_le (by omega : a.length ≤ i)]
    rfl
  | succ m ih =>
    intro i k h1 h2 h3
    obtain ⟨k, rfl⟩ : ∃ q, k = q + 1 := ⟨k - 1, by omega⟩
    rw [delta_alike.l0, if_pos (by omega)]
    have hda := List.drop_eq_getElem_cons (show i < a.length by omega)
    by_cases c : i < b.length
    · have hdb := List.drop_eq_getElem_cons c
      have ra : rd a (i : Int) = a[i]'(by omega) := by rw [rd, Int.toNat_natCast, List.getD_eq_getElem?_getD, List.getElem?_eq_getElem (by omega)]; rfl
      have rb : rd b (i : Int) = b[i] := by rw [rd, Int.toNat_natCast, List.getD_eq_getElem?_getD, List.getElem?_eq_getElem c]; rfl
      rw [if_pos (by omega), if_pos (by omega), ra, rb, hda, hdb, alikeN]
      by_cases h : a[i]'(by omega) = b[i]
      · rw [if_pos h, if_pos h, hw64_ (by omega) (by omega), show (i : Int) + 1 = ((i + 1 : Nat) : Int) by omega, ih (i + 1) k (by omega) (by omega) (by omega)]
        congr 2
        omega
      · rw [if_neg h, if_neg h]
        rfl
    · rw [if_neg (by omega), List.drop_eq_nil_of_le (by omega : b.length ≤ i), hda]
      rfl
theorem alike_eq (a b : List Int) (ha : a.length ≤ 5000) (hb : b.length ≤ 5000) (k : Nat) (hk : 5001 ≤ k) : delta_alike.f k a b = some ((alikeN a b : Nat) : Int) := by
  unfold delta_alike.f
  have := alike_l0 a b ha hb a.length 0 k (by omega) (by omega) (by omega)
  rw [Nat.zero_add, List.drop_zero, List.drop_zero] at this
  exact this
/-- the best of the places zs -/
def dGo (old now : List Int) (a : Nat) : List Int → Int × Int → Int × Int
  | [], t => t
  | z :: zs, t => dGo old now a zs (if ((alikeN (old.drop z.toNat) (now.drop a) : Nat) : Int) > t.2 then (z, ((alikeN (old.drop z.toNat) (now.drop a) : Nat) : Int)) else t)
def dBest (old now : List Int) (a : Nat) : Int × Int := if a + 8 ≤ now.length then dGo old now a (sposs old (old.length - 7) (strOfNums (win now a))) (0, 0) else (0, 0)
theorem dGo_in (old now : List Int) (a : Nat) (ha : a ≤ now.length) : ∀ (zs : List Int) (t : Int × Int), 0 ≤ t.2 ∧ a + t.2.toNat ≤ now.length → 0 ≤ (dGo old now a zs t).2 ∧ a + (dGo old now a zs t).2.toNat ≤ now.length
  | [], t, h => h
  | z :: zs, t, h => by
    rw [dGo]
    refine dGo_in old now a ha zs _ ?_
    split
    · have := (alikeN_le (old.drop z.toNat) (now.drop a)).2
      rw [List.length_drop] at this
      exact ⟨Int.natCast_nonneg _, by show a + (((alikeN (old.drop z.toNat) (now.drop a) : Nat) : Int)).toNat ≤ _; omega⟩
    · exact h
theorem dBest_in (old now : List Int) (a : Nat) (ha : a ≤ now.length) : 0 ≤ (dBest old now a).2 ∧ a + (dBest old now a).2.toNat ≤ now.length := by
  unfold dBest
  split
  · exact dGo_in old now a ha _ _ ⟨Int.le_refl _, by simpa using ha⟩
  · exact ⟨Int.le_refl _, by simpa using ha⟩
/-- is the last one a copy, or is there none? -/
def needNew (ps : List S31) : Bool := ps.length == 0 || (rd_T31 ps ((ps.length : Int) - 1)).f0
/-- a byte behind the last piece's -/
def tellOn (qs : List S31) (x : Int) : List S31 := qs.set (qs.length - 1) { rd_T31 qs ((qs.length : Int) - 1) with f3 := (rd_T31 qs ((qs.length : Int) - 1)).f3 ++ [x] }
def tellByte (ps : List S31) (x : Int) : List S31 := tellOn (if needNew ps = true then ps ++ [z31] else ps) x
def deltaGo (old now : List Int) : Nat → Nat → List S31 → List S31
  | 0, _, ps => ps
  | f + 1, a, ps => if a < now.length then (if (dBest old now a).2 > 0 then deltaGo old now f (a + (dBest old now a).2.toNat) (ps ++ [⟨true, (dBest old now a).1, (dBest old now a).2, []⟩]) else deltaGo old now f (a + 1) (tellByte ps (rd now a))) else ps
def delta_Delta.f (old now : List Int) : Option (List S31 × Int) := if old.length > 2048 ∨ now.length > 2048 then some ([], 1) else some (deltaGo old now now.length 0 [], 0)
theorem deltaGo_fuel (old now : List Int) : ∀ (f g a : Nat) (ps : List S31), now.length ≤ a + f → now.length ≤ a + g → deltaGo old now f a ps = deltaGo old now g a ps
  | 0, 0, _, _, _, _ => rfl
  | 0, g + 1, a, ps, h1, _ => by rw [deltaGo, deltaGo, if_neg (by omega)]
  | f + 1, 0, a, ps, _, h2 => by rw [deltaGo, deltaGo, if_neg (by omega)]
  | f + 1, g + 1, a, ps, h1, h2 => by
    rw [deltaGo, deltaGo]
    split
    · split
      · exact deltaGo_fuel old now f g _ _ (by omega) (by omega)
      · exact deltaGo_fuel old now f g _ _ (by omega) (by omega)
    · rfl
theorem deltaGo_copy (old now : List Int) (a : Nat) (ps : List S31) (h : a < now.length) (hb : (dBest old now a).2 > 0) : deltaGo old now now.length a ps = deltaGo old now now.length (a + (dBest old now a).2.toNat) (ps ++ [⟨true, (dBest old now a).1, (dBest old now a).2, []⟩]) := by
  rw [← deltaGo_fuel old now (now.length + 1) now.length a ps (by omega) (by omega), deltaGo, if_pos h, if_pos hb]
theorem deltaGo_byte (old now : List Int) (a : Nat) (ps : List S31) (h : a < now.length) (hb : ¬ (dBest old now a).2 > 0) : deltaGo old now now.length a ps = deltaGo old now now.length (a + 1) (tellByte ps (rd now a)) := by
  rw [← deltaGo_fuel old now (now.length + 1) now.length a ps (by omega) (by omega), deltaGo, if_pos h, if_neg hb]
theorem deltaGo_stop (old now : List Int) (a : Nat) (ps : List S31) (h : ¬ a < now.length) : deltaGo old now now.length a ps = ps := by
  rw [← deltaGo_fuel old now (now.length + 1) now.length a ps (by omega) (by omega), deltaGo, if_neg h]
/-- no piece bears more bytes than so many -/
def Bytes (ps : List S31) (n : Nat) : Prop := ps.length ≤ n ∧ ∀ p, p ∈ ps → p.f3.length ≤ n
theorem Bytes.more {ps : List S31} {n m : Nat} (h : Bytes ps n) (hm : n ≤ m) : Bytes ps m := ⟨by have := h.1; omega, fun p hp => by have := h.2 p hp; omega⟩
theorem Bytes.snoc {ps : List S31} {n : Nat} (h : Bytes ps n) (p : S31) (hp : p.f3 = []) : Bytes (ps ++ [p]) (n + 1) := by
  refine ⟨by rw [List.length_append]; have := h.1; simp; omega, fun q hq => ?_⟩
  rcases List.mem_append.1 hq with hq | hq
  · have := h.2 q hq; omega
  · simp at hq; subst hq; rw [hp]; simp
theorem bytes_last {ps : List S31} {n : Nat} (h : ∀ p, p ∈ ps → p.f3.length ≤ n) : (rd_T31 ps ((ps.length : Int) - 1)).f3.length ≤ n := by
  unfold rd_T31
  by_cases c : ps.length = 0
  · have : ps = [] := List.eq_nil_of_length_eq_zero c
    subst this
    exact Nat.zero_le _
  · rw [show ((ps.length : Int) - 1).toNat = ps.length - 1 by omega, List.getD_eq_getElem?_getD, List.getElem?_eq_getElem (by omega)]
    exact h _ (List.getElem_mem _)
theorem bytes_tell {qs : List S31} {n : Nat} (hl : qs.length ≤ n + 1) (h : ∀ p, p ∈ qs → p.f3.length ≤ n) (x : Int) : Bytes (tellOn qs x) (n + 1) := by
  have h1 := bytes_last h
  refine ⟨by unfold tellOn; rw [List.length_set]; omega, fun q hq => ?_⟩
  unfold tellOn at hq
  rcases List.mem_or_eq_of_mem_set hq with hq | hq
  · have := h q hq; omega
  · subst hq
    show ((rd_T31 qs ((qs.length : Int) - 1)).f3 ++ [x]).length ≤ n + 1
    rw [List.length_append]
    simp
    omega
theorem GM_append {w w1 : World} {κ : Type} [DecidableEq κ] {ka : κ → Value} {m et base b : Nat} {g : κ → List Int} {α : Type} {d : Kd α} {e : Nat} {ok : Nat → Prop} {v : Value} {xs : List α} (hG : GM w ka m et base g) (hR : d.R e w b ok v xs) (hg : w.grownBy w1 v.ownBlock) (hne : e ≠ et) : GM w1 ka m et base g := by
  refine hG.same (SameTy.of_grown hg (fun e1 => ?_) (fun k hk cs hcs => ?_))
  · obtain ⟨cs, hcs⟩ := Kd.R_typed hR m e1.symm
    obtain ⟨L, hL, _⟩ := hG
    rw [hL] at hcs
    cases hcs
  · obtain ⟨ds, hds⟩ := Kd.R_typed hR k hk
    rw [hds] at hcs
    injection hcs with hcs
    injection hcs with _ hcs
    exact hne hcs
theorem own_before {w : World} {cs : Array Value} {t base e s n : Nat} {v : Value} {xs : List Value} (h : (w.alloc (.cells cs t)).ownsRow base e s v n xs) (hne : e ≠ t) : w.ownsRow base e s v n xs :=
  own_move h (fun k hk => by
    obtain ⟨ds, hd⟩ := own_typed h k hk
    have hlt := own_lt h k hk
    have e1 : (w.alloc (.cells cs t)).heap.size = w.heap.size + 1 := by simp
    by_cases c : k = w.heap.size
    · subst c
      have : (w.alloc (.cells cs t)).heap[w.heap.size]? = some (Obj.cells cs t (0, 0)) := Array.getElem?_push_size
      rw [this] at hd
      injection hd with hd
      injection hd with _ hd
      exact absurd hd.symm hne
    · exact (Below.heap_alloc w _ k (by omega)).symm)
theorem SameTy.set {w : World} {m et gb t : Nat} {cs : Array Value} (hb : w.heap[gb]? = some (Obj.cells cs t (0, 0))) (hne : t ≠ et) (hm : ∃ es c, w.heap[m]? = some (Obj.map es c)) (off : Nat) (u : Value) : SameTy w (w.setCell ⟨gb, off, none⟩ u) m et := by
  refine ⟨fun o h => ?_, fun b ds h => ?_⟩
  · have : m ≠ gb := fun e => by
      subst e
      obtain ⟨es, c, hm⟩ := hm
      rw [hm] at hb
      cases hb
    rw [Below.heap_setCell w ⟨gb, off, none⟩ u m this]
    exact h
  · have : b ≠ gb := fun e => by
      subst e
      rw [hb] at h
      injection h with h
      injection h with _ h
      exact hne h
    rw [Below.heap_setCell w ⟨gb, off, none⟩ u b this]
    exact h
theorem GM.map {κ : Type} {w : World} {ka : κ → Value} {m et base : Nat} {g : κ → List Int} (h : GM w ka m et base g) : ∃ es c, w.heap[m]? = some (Obj.map es c) := by
  obtain ⟨L, h1, _⟩ := h
  exact ⟨_, _, h1⟩
/-- a byte behind the last piece's, in memory -/
theorem tell_end {κ : Type} [DecidableEq κ] {ka : κ → Value} {m base mb gb cap : Nat} {g : κ → List Int} {W w1 w : World} {qs : List S31} {oki : Nat → Prop} {v3 v1 : Value} (x : Int) (hq : 0 < qs.length) (hgb : gb < W.heap.size) (hgb2 : base ≤ gb)
    (hH : Kd.H k31 31 W base (fun k => True ∧ ¬ W.heap.size ≤ k) (.slice (some ⟨gb, 0, none⟩) qs.length cap) qs ((qs.length : Int) - 1) oki [.bool (rd_T31 qs ((qs.length : Int) - 1)).f0, .int .i64 (rd_T31 qs ((qs.length : Int) - 1)).f1, .int .i64 (rd_T31 qs ((qs.length : Int) - 1)).f2, v3])
    (hv3 : (Kd.int .u8).R 5 W base oki v3 (rd_T31 qs ((qs.length : Int) - 1)).f3) (hg : W.grownBy w1 v3.ownBlock) (ho : (Kd.int .u8).R 5 w1 base (fun k => oki k ∨ W.heap.size ≤ k) v1 ((rd_T31 qs ((qs.length : Int) - 1)).f3 ++ [x])) (hG : GM W ka m 3 mb g) (hB : Below base w w1) :
    Kd.S k31 31 (w1.setCell ⟨gb, (qs.length - 1) * 4 + 3, none⟩ v1) base (fun _ => True) (.slice (some ⟨gb, 0, none⟩) qs.length cap) (tellOn qs x) ∧ GM (w1.setCell ⟨gb, (qs.length - 1) * 4 + 3, none⟩ v1) ka m 3 mb g ∧ Below base w (w1.setCell ⟨gb, (qs.length - 1) * 4 + 3, none⟩ v1) := by
  have hi : ((qs.length : Int) - 1).toNat = qs.length - 1 := by omega
  have hH1 := Kd.H_grown hH hg (fun k hk => hv3.1 k hk)
  have h := Kd.S_seg (ok := fun _ => True) (okg := fun k => W.heap.size ≤ k) (okp := fun k => oki k ∨ W.heap.size ≤ k) hH1 (by omega) (by omega) (seg := [v1]) (j := 3) (by show 3 + 1 ≤ 4; omega)
    (x' := { rd_T31 qs ((qs.length : Int) - 1) with f3 := (rd_T31 qs ((qs.length : Int) - 1)).f3 ++ [x] }) (k31_mkM w1 base _ { rd_T31 qs ((qs.length : Int) - 1) with f3 := (rd_T31 qs ((qs.length : Int) - 1)).f3 ++ [x] } ho) (fun _ h => h) (fun k hk => ⟨trivial, by omega⟩)
  rw [hi, show k31.sz = 4 from rfl] at h
  refine ⟨h.1, ?_, hB.setCell (p := ⟨gb, (qs.length - 1) * 4 + 3, none⟩) hgb2 v1⟩
  have hG1 : GM w1 ka m 3 mb g := GM_append (hG := hG) (hR := hv3) hg (by decide)
  obtain ⟨cs, hcs⟩ : ∃ cs, w1.heap[gb]? = some (Obj.cells cs 31 (0, 0)) := by
    obtain ⟨_, f, hR⟩ := hH1
    exact Kd.R_typed hR gb rfl
  exact hG1.same (SameTy.set hcs (by decide) hG1.map _ _)
/-- a cut behind a place -/
theorem tail_cut (A : Option Addr) (c : Nat) (l : List Int) (z : Int) (h0 : 0 ≤ z) (h : z ≤ l.length) (hc : l.length ≤ c) : ∃ A' : Option Addr, (∀ W : World, (Instr.slice 22 (.slice A l.length c) (some (.int .i64 z)) none none).run Try.prog W = .ok (.slice A' (l.drop z.toNat).length (c - z.toNat)) W) ∧ (l.drop z.toNat).length ≤ c - z.toNat ∧
    ∀ W : World, Kd.C (Kd.int .u8) W A l.length l → Kd.C (Kd.int .u8) W A' (l.drop z.toNat).length (l.drop z.toNat) := by
  obtain ⟨i0, hi, _, hsz, _⟩ := info_parts info5
  obtain ⟨A', h1, h2, h3⟩ := print_drop_of (P := Try.prog) (Value.int .u8) (0 : Int) 22 5 .i64 Try.underlying22 hi hsz A c l z h0 h hc
  exact ⟨A', h1, h3, fun W hC => Kd.C_of_reads (h1 := fun _ => rfl) (h2 W (Kd.reads_of_C hC))⟩
set_option maxHeartbeats 16000000 in
set_option maxRecDepth 100000 in
theorem delta_calls (A0 : Option Addr) (c0 : Nat) (old : List Int) (A1 : Option Addr) (c1 : Nat) (now : List Int) (w : World) (hC0 : Kd.C (Kd.int .u8) w A0 old.length old) (hc0 : old.length ≤ c0) (hC1 : Kd.C (Kd.int .u8) w A1 now.length now) (hc1 : now.length ≤ c1) (hl0 : old.length ≤ 2048) (hl1 : now.length ≤ 2048) :
    Calls Try.prog 16 #[.slice A0 old.length c0, .slice A1 now.length c1] w fun e w' => ∃ v, e = .returned (.tuple #[v, .int .i64 0]) ∧ Kd.S k31 31 w' w.heap.size (fun _ => True) v (deltaGo old now now.length 0 []) ∧ Below w.heap.size w w' := by
  have HC0 := Aside0.mk hC0
  have HC1 := Aside0.mk hC1
  clear hC0 hC1
  have g0 : decide (2048 < old.length) = false := decide_eq_false (by omega)
  have g1 : decide (2048 < now.length) = false := decide_eq_false (by omega)
  have g2 : decide (2048 < (old.length : Int)) = false := decide_eq_false (by omega)
  have g3 : decide (2048 < (now.length : Int)) = false := decide_eq_false (by omega)
  go_enter Try.func16, Try.ntmps16
  go_wp2_with (first
    | ((with_reducible refine gate_callee (f := 28) rfl ?_); refine goesL_ _ rfl rfl Try.func28 (by kernel_rfl) rfl #[.slice A0 old.length c0] rfl (by (try simp only [List.map_toArray, List.map_cons, List.map_nil]); first | done | rfl) ?_; refine (seeds_calls A0 c0 old w HC0.out hc0 hl0).mono ?_; rintro e w5 ⟨rfl, hg5, hb5⟩; refine ⟨_, rfl, ?_⟩; have HG5 := Aside0.mk hg5; have HB5 := Aside0.mk hb5; clear hg5 hb5))
  clear g0 g1 g2 g3
  go_loopw [7, 8] (fun v i wr => ∃ (a : Nat) (ps : List S31), a ≤ now.length ∧ i = .int .i64 (a : Int) ∧ Aside0 (deltaGo old now now.length a ps = deltaGo old now now.length 0 []) ∧ Aside0 (Bytes ps a) ∧ Aside0 (Kd.S k31 31 wr w.heap.size (fun _ => True) v ps) ∧ Aside0 (GM wr Value.string w.heap.size 3 (w.heap.size + 1) (sposs old (old.length - 7))) ∧ Aside0 (Below w.heap.size w wr)) (fun _ i _ => now.length - (intOf i).toNat)
  case atStart => exact ⟨0, [], Nat.zero_le _, rfl, ⟨rfl⟩, ⟨⟨Nat.le_refl _, fun p hp => by simp at hp⟩⟩, ⟨Kd.S_nil _ _ _ _ _⟩, HG5, HB5⟩
  case round =>
    obtain ⟨a, ps, ha, rfl, HA, HT, HS, HG, HB⟩ := hrel
    obtain ⟨wo, hwo⟩ : ∃ wo : World, wo = wr := ⟨_, rfl⟩
    subst hwo
    by_cases k0 : a < now.length
    · have k0b : decide (a < now.length) = true := decide_eq_true k0
      have hin := dBest_in old now a ha
      have HIN := Aside0.mk hin
      clear hin
      go_upto_if 34 with (fail)
      go_cut [] (fun wc => Aside0 (wc.heap[wo.heap.size]? = some (Obj.cells #[.bool true, .int .i64 (dBest old now a).1, .int .i64 (dBest old now a).2, .slice none 0 0] 31 (0, 0))) ∧ Aside0 (Below wo.heap.size wo wc))
      case first =>
        by_cases k8 : a + 8 ≤ now.length
        · have k8b : decide ((a : Int) + 8 ≤ (now.length : Int)) = true := decide_eq_true (by omega)
          have k9 : a ≤ now.length := ha
          obtain ⟨A', hcut, hcv⟩ := win_cut A1 c1 now a k8 hc1
          have hconv := hcv (wo.alloc (.cells #[.bool true, .int .i64 0, .int .i64 0, .slice none 0 0] 31)) (Kd.C_alloc (Kd.C_below HC1.out HB.out) _)
          obtain ⟨zs, hzs⟩ : ∃ zs, sposs old (old.length - 7) (strOfNums (win now a)) = zs := ⟨_, rfl⟩
          have hbe : dBest old now a = dGo old now a zs (0, 0) := by unfold dBest; rw [if_pos k8, hzs]
          have HBE := Aside0.mk hbe
          have HZ := Aside0.mk (show ∀ z, z ∈ zs → 0 ≤ z ∧ z < ((old.length - 7 : Nat) : Int) from fun z hz => sposs_mem old _ _ z (by rw [hzs]; exact hz))
          have hzl : zs.length ≤ 2048 := by rw [← hzs]; have := sposs_len old (old.length - 7) (strOfNums (win now a)); omega
          obtain ⟨key, hkey⟩ : ∃ k, strOfNums (win now a) = k := ⟨_, rfl⟩
          rw [hkey] at hconv hzs
          clear hcv hbe hkey
          go_wp2_with (first
            | (refine wpList_gm_value rfl _ _ 62 9 33 rfl keyok9 Try.underlying62 hz_zero33 rfl (HG.out.same (SameTy.of_grown (World.grownBy_alloc _ _ none) (by simp) (by simp))) key rfl ?_; intro v hv ho; rw [hzs] at ho; replace ho := own_before ho (by decide); obtain ⟨A2, c2, rfl, hr2⟩ := own_reads ho; have HV := Aside0.mk hr2; clear hv ho hr2))
          clear hconv hcut k8b
          go_loopw [44] (fun j wq => ∃ (q : Nat) (t1 t2 : Int), q ≤ zs.length ∧ j = .int .i64 (q : Int) ∧ Aside0 (dGo old now a (zs.drop q) (t1, t2) = dBest old now a) ∧ Aside0 (wq.heap[wo.heap.size]? = some (Obj.cells #[.bool true, .int .i64 t1, .int .i64 t2, .slice none 0 0] 31 (0, 0))) ∧ Aside0 (Below wo.heap.size wo wq)) (fun j _ => zs.length - (intOf j).toNat)
          case atStart => exact ⟨0, 0, 0, Nat.zero_le _, rfl, ⟨HBE.out.symm⟩, ⟨Array.getElem?_push_size⟩, ⟨below_alloc (Below.refl _ _) _⟩⟩
          case round =>
            obtain ⟨q, t1, t2, hq, rfl, HD, HH, HQ⟩ := hrel
            have f0 : wr.cell? ⟨wo.heap.size, 0, none⟩ = some (.bool true) := by rw [blk_cell HH.out]; rfl
            have f1 : wr.cell? ⟨wo.heap.size, 1, none⟩ = some (.int .i64 t1) := by rw [blk_cell HH.out]; rfl
            have f2 : wr.cell? ⟨wo.heap.size, 2, none⟩ = some (.int .i64 t2) := by rw [blk_cell HH.out]; rfl
            have z1 := blk_frozen HH.out 1
            have z2 := blk_frozen HH.out 2
            by_cases k1 : q < zs.length
            · have k1b : decide ((q : Int) < (zs.length : Int)) = true := decide_eq_true (by omega)
              have k1c : (q : Int) < (zs.length : Int) := by omega
              have hR := HV.out.below HQ.out
              obtain ⟨ad2, rfl, hz0⟩ := hR.at_ (q : Int) (by omega) (by omega)
              rw [Int.toNat_natCast] at hz0
              obtain ⟨z, hz⟩ : ∃ z, rd zs q = z := ⟨_, rfl⟩
              have hzm := HZ.out z (by rw [← hz, rd, Int.toNat_natCast, List.getD_eq_getElem?_getD, List.getElem?_eq_getElem k1]; exact List.getElem_mem _)
              have hD := HD.out
              rw [List.drop_eq_getElem_cons k1, show zs[q] = z by rw [← hz, rd, Int.toNat_natCast, List.getD_eq_getElem?_getD, List.getElem?_eq_getElem k1]; rfl, dGo] at hD
              rw [hz] at hz0
              obtain ⟨n, hn⟩ : ∃ n, alikeN (old.drop z.toNat) (now.drop a) = n := ⟨_, rfl⟩
              have hal := alike_eq (old.drop z.toNat) (now.drop a) (by rw [List.length_drop]; omega) (by rw [List.length_drop]; omega) 6000 (by decide)
              have hnl := (alikeN_le (old.drop z.toNat) (now.drop a)).2
              rw [hn] at hal hD hnl
              rw [List.length_drop] at hnl
              obtain ⟨B0, hs0, hb0, hr0⟩ := tail_cut A0 c0 old z (by omega) (by omega) hc0
              obtain ⟨B1, hs1, hb1, hr1⟩ := tail_cut A1 c1 now (a : Int) (by omega) (by omega) hc1
              rw [Int.toNat_natCast] at hs1 hb1 hr1
              obtain ⟨da, hda⟩ : ∃ da, old.drop z.toNat = da := ⟨_, rfl⟩
              obtain ⟨db, hdb⟩ : ∃ db, now.drop a = db := ⟨_, rfl⟩
              rw [hda] at hs0 hb0 hr0 hal
              rw [hdb] at hs1 hb1 hr1 hal
              have HR0 := Aside0.mk (hr0 wr (Kd.C_below HC0.out (below_then HB.out HB.out.size HQ.out)))
              have HR1 := Aside0.mk (hr1 wr (Kd.C_below HC1.out (below_then HB.out HB.out.size HQ.out)))
              have HD2 := Aside0.mk hD
              have HAL := Aside0.mk hal
              have HB0 := Aside0.mk hb0
              have HB1 := Aside0.mk hb1
              clear hR hz hr0 hr1 hD hal hn HD hb0 hb1 hda hdb
              go_upto_region 12 with (fail)
              go_quiet (first | (go_at_call 29; (with_reducible refine (delta_alike.calls 6000 _ _ da _ _ db n _ ?side1 ?side2 ?side3 ?side4 HAL.out).mono ?_); (case side1 => repeat (first | exact HR0.out | (with_reducible refine Kd.C_drewN ?_ _) | (with_reducible refine Kd.C_drew ?_))); (case side2 => exact HB0.out); (case side3 => repeat (first | exact HR1.out | (with_reducible refine Kd.C_drewN ?_ _) | (with_reducible refine Kd.C_drew ?_))); (case side4 => exact HB1.out); rintro e w' ⟨rfl, ⟨nd, rfl⟩⟩; (try first | exact ⟨rfl, _, World.drewN_drewN _ _ _⟩ | exact ⟨rfl, _, Eq.trans (World.drewN_drewN _ _ _) (congrArg (World.drewN _) (Nat.add_assoc _ _ _))⟩)))
              go_wp2
              · have hlt : t2 < (n : Int) := by assumption
                have HW := blk_set (blk_set (show (wr.drewN nq).heap[wo.heap.size]? = _ from HH.out) 1 (.int .i64 z)) 2 (.int .i64 (n : Int))
                simp only [List.setIfInBounds_toArray, List.set_cons_zero, List.set_cons_succ] at HW
                have HBW := ((pw_below_drewN HQ.out nq).setCell (p := ⟨wo.heap.size, 1, none⟩) (Nat.le_refl _) (.int .i64 z)).setCell (p := ⟨wo.heap.size, 2, none⟩) (Nat.le_refl _) (.int .i64 (n : Int))
                have hD := HD2.out
                rw [if_pos hlt] at hD
                exact ⟨⟨q + 1, z, (n : Int), by omega, by go_num, ⟨hD⟩, ⟨HW⟩, ⟨HBW⟩⟩, by simp [intOf]; omega⟩
              · have hle : (n : Int) ≤ t2 := by assumption
                have hD := HD2.out
                rw [if_neg (by show ¬ ((n : Int) > t2); omega)] at hD
                exact ⟨⟨q + 1, t1, t2, by omega, by go_num, ⟨hD⟩, ⟨HH.out⟩, ⟨pw_below_drewN HQ.out nq⟩⟩, by simp [intOf]; omega⟩
            · obtain rfl : q = zs.length := by omega
              have k1b : decide ((zs.length : Int) < (zs.length : Int)) = false := decide_eq_false (by omega)
              have hD := HD.out
              rw [List.drop_eq_nil_of_le (Nat.le_refl _), dGo] at hD
              go_wp2
              go_meet
              case rel => rw [← hD]; exact ⟨HH, HQ⟩
        · have k8b : decide ((a : Int) + 8 ≤ (now.length : Int)) = false := decide_eq_false (by omega)
          have hbe : dBest old now a = (0, 0) := by unfold dBest; rw [if_neg k8]
          go_wp2
          go_meet
          case rel => rw [hbe]; exact ⟨⟨Array.getElem?_push_size⟩, ⟨below_alloc (Below.refl _ _) _⟩⟩
      case rest =>
        obtain ⟨HX, HBX⟩ := hcut
        obtain ⟨b1, hb1⟩ : ∃ x, (dBest old now a).1 = x := ⟨_, rfl⟩
        obtain ⟨b2, hb2⟩ : ∃ x, (dBest old now a).2 = x := ⟨_, rfl⟩
        rw [hb1, hb2] at HX
        rw [hb2] at HIN
        have hin0 := HIN.out.1
        have hin1 := HIN.out.2
        have HE1 := Aside0.mk hb1
        have HE2 := Aside0.mk hb2
        clear hb1 hb2
        have f0 : wc.cell? ⟨wo.heap.size, 0, none⟩ = some (.bool true) := by rw [blk_cell HX.out]; rfl
        have f1 : wc.cell? ⟨wo.heap.size, 1, none⟩ = some (.int .i64 b1) := by rw [blk_cell HX.out]; rfl
        have f2 : wc.cell? ⟨wo.heap.size, 2, none⟩ = some (.int .i64 b2) := by rw [blk_cell HX.out]; rfl
        have f3 : wc.cell? ⟨wo.heap.size, 3, none⟩ = some (.slice none 0 0) := by rw [blk_cell HX.out]; rfl
        by_cases kb : 0 < b2
        · have kbb : decide (0 < b2) = true := decide_eq_true kb
          go_wp2_with (first
            | ((with_reducible refine gate_builtin (b := .append) (xs := #[.tmp 67, .tmp 69]) rfl ?_); at_builtin; refine Kd.S_append k31 (w0 := w) (W := wc) w.heap.size rfl (.tmp 67) (.tmp 69) 26 31 (.agg #[(.bool false), (.int .i64 0), (.int .i64 0), (.slice none 0 0)]) 48 rfl Try.underlying26 info31 rfl (by decide) (by decide) u7 ps (⟨true, b1, b2, []⟩ : S31) [.bool true, .int .i64 b1, .int .i64 b2, .slice none 0 0] (fun _ => True) (fun _ => False) rfl rfl (k31_mkM _ _ _ (⟨true, b1, b2, []⟩ : S31) (Kd.R_nil _ _ _ _ _)) (fun _ hk => hk.elim) (fun _ _ => trivial) ?aO ?aB ?aS ?aL ?_; (case aO => exact Kd.S_mono (Kd.S_below HS.out HBX.out) (fun _ _ => ⟨trivial, fun h => h⟩)); (case aB => exact below_then HB.out HB.out.size HBX.out); (case aS => exact (below_then HB.out HB.out.size HBX.out).size); (case aL => have := HT.out.1; omega); intro v1 w6 ho hb6 hg6 hat6; have HS6 := Aside0.mk ho; have HB6 := Aside0.mk hb6; have HG6 := Aside0.mk (GM_append (hG := (HG.out.same (SameTy.of_grown (grown_of_below HBX.out none) (by simp) (by simp)))) (hR := Kd.S_R (Kd.S_below HS.out HBX.out)) hg6 (by decide)); have HX6 := Aside0.mk (blk_grown HX.out hg6 (fun e1 => by have := Kd.S_lt HS.out _ e1.symm; omega)); clear ho hb6 hg6 hat6; have f6 : w6.cell? ⟨wo.heap.size, 2, none⟩ = some (.int .i64 b2) := (by rw [blk_cell HX6.out]; rfl)))
          refine ⟨⟨a + b2.toNat, ps ++ [⟨true, b1, b2, []⟩], by omega, by rw [show ((a + b2.toNat : Nat) : Int) = (a : Int) + b2 by omega], ⟨?_⟩, ⟨(HT.out.snoc _ rfl).more (by omega)⟩, HS6, HG6, HB6⟩, by simp [intOf]; omega⟩
          have hA := HA.out
          rw [deltaGo_copy old now a ps k0 (by rw [HE2.out]; exact kb), HE1.out, HE2.out] at hA
          exact hA
        · have kbb : decide (0 < b2) = false := decide_eq_false kb
          have hAb := HA.out
          rw [deltaGo_byte old now a ps k0 (by rw [HE2.out]; exact kb)] at hAb
          have HAB := Aside0.mk hAb
          clear hAb
          rcases hne : needNew ps with _ | _
          · have hnn := hne
            unfold needNew at hnn
            rw [Bool.or_eq_false_iff] at hnn
            obtain ⟨hn0, hn1⟩ := hnn
            have hp0 : 0 < ps.length := by
              have : ps.length ≠ 0 := by simpa using hn0
              omega
            clear hn0
            obtain ⟨gb, cap, rfl, hgb, hgl, _⟩ := Kd.S_form HS.out hp0
            obtain ⟨ce0, _, hM0, hcc0, _⟩ := Kd.R_elem (Kd.S_R (Kd.S_below HS.out HBX.out)) z31 ((ps.length : Int) - 1) (by omega) (by omega)
            obtain ⟨v0, rfl, _⟩ := k31_openM hM0
            have hl0 := hcc0 0 _ rfl
            rw [show k31.sz = 4 from rfl, Nat.add_zero, show ((ps.length : Int) - 1).toNat = ps.length - 1 by omega] at hl0
            have hrd : ps.getD ((ps.length : Int) - 1).toNat z31 = rd_T31 ps ((ps.length : Int) - 1) := rfl
            rw [show ((ps.length : Int) - 1).toNat = ps.length - 1 by omega] at hrd
            rw [hrd, hn1] at hl0
            have k3 : ((ps.length : Int) == 0) = false := beq_eq_false_iff_ne.mpr (by omega)
            have hw : wrap64 ((ps.length : Int) - 1) = ((ps.length - 1 : Nat) : Int) := by have := HT.out.1; rw [hw64_ (by omega) (by omega)]; omega
            have k5 : ps.length - 1 < ps.length := by omega
            clear hM0 hcc0 hrd hn1
            go_upto_region 22 with (fail)
            clear hl0 k3 hw k5
            have hq0 : 0 < ps.length := hp0
            have hqa : ps.length ≤ a + 1 := by have := HT.out.1; omega
            have hqb : ∀ p, p ∈ ps → p.f3.length ≤ a := HT.out.2
            obtain ⟨oki, ce, hcl, hM, hcc, hfr, hok, hH⟩ := Kd.S_elem (Kd.S_mono (ok' := fun k => True ∧ ¬ wc.heap.size ≤ k) (Kd.S_bound (Kd.S_below HS.out HBX.out)) (fun k hk => ⟨trivial, by have := hk.2.2.1; omega⟩)) z31 ((ps.length : Int) - 1) (by omega) (by omega)
            obtain ⟨v3, rfl, hv3⟩ := k31_openM hM
            have hl3 := hcc 3 _ rfl
            have hf3 := hfr 3
            rw [show k31.sz = 4 from rfl, show ((ps.length : Int) - 1).toNat = ps.length - 1 by omega] at hl3 hf3
            obtain ⟨L, hL⟩ : ∃ L, ps.length = L := ⟨_, rfl⟩
            have hw2 : ((L : Int) - 1) = ((L - 1 : Nat) : Int) := by omega
            have k6 : L ≤ 2049 := by omega
            have k7 : L - 1 < L := by omega
            obtain ⟨ad, hA1, hx⟩ := Kd.at_int (Kd.C_below HC1.out (below_then HB.out HB.out.size HBX.out)) (a : Int) (by omega) (by omega)
            rw [Int.toNat_natCast] at hx
            subst hA1
            have hbl := bytes_last hqb
            have HV3 := Aside0.mk (show (Kd.int .u8).R 5 wc w.heap.size oki v3 (rd_T31 ps ((ps.length : Int) - 1)).f3 from hv3)
            obtain ⟨x3, hx3⟩ : ∃ x3, (rd_T31 ps ((ps.length : Int) - 1)).f3 = x3 := ⟨_, rfl⟩
            have HV4 := HV3
            rw [hx3] at HV4 hbl
            have HBL := Aside0.mk hbl
            have HH3 := Aside0.mk hH
            have HOK := Aside0.mk hok
            have HX3 := Aside0.mk hx3
            have HL := Aside0.mk hL
            have hlx : ∀ o, (wc.alloc o).cell? ⟨gb, (ps.length - 1) * 4 + 3, none⟩ = some v3 := fun o => pw_cell_below (below_alloc (Below.refl _ _) o) hl3
            have hcx : ∀ o, (wc.alloc o).cell? (ad.add a) = some (.int .u8 (rd now (a : Int))) := fun o => pw_cell_below (below_alloc (Below.refl _ _) o) hx
            have hq1 := hq0
            rw [hL] at hl3 hf3 hlx hq1 ⊢
            clear hv3 hH hok hcc hfr hM hbl hx3 hL hqa hqb hq0
            go_wp2
            go_region_law (refine Kd.R_append_step (Kd.int .u8) (w0 := w) (W := wc.drew) w.heap.size rfl (.tmp 100) (.tmp 105) 22 5 (.int .u8 0) 1 rfl Try.underlying22 info5 rfl (by decide) (by decide) v3 x3 (rd now (a : Int)) [.int .u8 (rd now (a : Int))] (fun k => oki k ∨ wc.heap.size ≤ k) (fun _ => False) ?aV ?aX rfl (fun _ hk => hk.elim) ?aF ?aO ?aB ?aS ?aL ?_; (case aV => rfl); (case aX => rfl); (case aF => exact fun _ hk => .inr hk); (case aO => exact Kd.R_drew (Kd.R_mono HV4.out (fun _ h => .inl h))); (case aB => exact ((below_then HB.out HB.out.size HBX.out)).drew); (case aS => exact ((below_then HB.out HB.out.size HBX.out)).size); (case aL => have := HBL.out; omega); intro v1 w1 ho hb hg hat; obtain ⟨A9, c9, hv9⟩ := Kd.R_slice ho; subst hv9; have HO7 := Aside0.mk ho; have HB7 := Aside0.mk hb; have HG7 := Aside0.mk hg; have hc7 : w1.cell? ⟨gb, (L - 1) * 4 + 3, none⟩ = some v3 := hg.cell (w := wc.drew) hl3 (fun e => (HOK.out gb (HV3.out.1 gb e.symm)).2 rfl); have hf7 : w1.frozen? ⟨gb, (L - 1) * 4 + 3, none⟩ = false := (hg.frozen_far (w := wc.drew) _ (World.block_lt_of_cell? wc _ hl3) (fun e => (HOK.out gb (HV3.out.1 gb e.symm)).2 rfl)).trans hf3; clear ho hb hg hat)
            all_goals
              go_wp2
              have hO7 := HO7.out
              have hlen : (x3 ++ [rd now (a : Int)]).length = x3.length + 1 := List.length_append
              rw [hlen, ← HX3.out] at hO7
              have hend := tell_end (rd now (a : Int)) (by rw [HL.out]; exact hq1) (Nat.lt_of_lt_of_le hgl HBX.out.size) hgb HH3.out HV3.out (⟨HG7.out.os, HG7.out.tape, HG7.out.output, HG7.out.size, HG7.out.block⟩ : wc.grownBy w1 v3.ownBlock) hO7 (HG.out.same (SameTy.of_grown (grown_of_below HBX.out none) (by simp) (by simp))) HB7.out
              rw [HX3.out, HL.out] at hend
              refine ⟨⟨a + 1, tellByte ps (rd now (a : Int)), by omega, by go_num, ⟨HAB.out⟩, ⟨?_⟩, ⟨?_⟩, ⟨hend.2.1⟩, ⟨hend.2.2⟩⟩, by simp [intOf]; omega⟩
              · rw [show tellByte ps (rd now (a : Int)) = tellOn ps (rd now (a : Int)) by unfold tellByte; rw [hne, if_neg (by decide)]]
                exact bytes_tell (by have := HT.out.1; omega) HT.out.2 _
              · rw [show tellByte ps (rd now (a : Int)) = tellOn ps (rd now (a : Int)) by unfold tellByte; rw [hne, if_neg (by decide)]]
                exact hend.1
          · have hnn := hne
            unfold needNew at hnn
            by_cases hz : ps.length = 0
            · obtain ⟨A7, c7, rfl⟩ := Kd.S_slice HS.out
              have k3 : ((ps.length : Int) == 0) = true := beq_iff_eq.mpr (by omega)
              have HZ7 := Aside0.mk hz
              clear hnn hz
              go_upto_region 22 with (first
                | ((with_reducible refine gate_builtin (b := .append) (xs := #[.tmp 87, .tmp 89]) rfl ?_); at_builtin; refine Kd.S_append k31 (w0 := w) (W := wc) w.heap.size rfl (.tmp 87) (.tmp 89) 26 31 (.agg #[(.bool false), (.int .i64 0), (.int .i64 0), (.slice none 0 0)]) 48 rfl Try.underlying26 info31 rfl (by decide) (by decide) _ ps (z31 : S31) [.bool false, .int .i64 0, .int .i64 0, .slice none 0 0] (fun _ => True) (fun _ => False) rfl rfl (k31_mkM _ _ _ (z31 : S31) (Kd.R_nil _ _ _ _ _)) (fun _ hk => hk.elim) (fun _ _ => trivial) ?aO ?aB ?aS ?aL ?_; (case aO => exact Kd.S_mono (Kd.S_below HS.out HBX.out) (fun _ _ => ⟨trivial, fun h => h⟩)); (case aB => exact below_then HB.out HB.out.size HBX.out); (case aS => exact (below_then HB.out HB.out.size HBX.out).size); (case aL => have := HT.out.1; omega); intro v1 w6 ho hb6 hg6 hat6; have HS6 := Aside0.mk ho; have HB6 := Aside0.mk hb6; have HG6 := Aside0.mk (GM_append (hG := (HG.out.same (SameTy.of_grown (grown_of_below HBX.out none) (by simp) (by simp)))) (hR := Kd.S_R (Kd.S_below HS.out HBX.out)) hg6 (by decide)); clear ho hb6 hg6 hat6))
              clear k3
              obtain ⟨gb2, cap2, hv2, hgb2, hgl2, _⟩ := Kd.S_form HS6.out (by rw [List.length_append]; simp)
              subst hv2
              have hq0 : 0 < (ps ++ [z31]).length := by rw [List.length_append]; simp
              have hqa : (ps ++ [z31]).length ≤ a + 1 := by rw [List.length_append]; have := HT.out.1; simp; omega
              have hqb : ∀ p, p ∈ (ps ++ [z31]) → p.f3.length ≤ a := fun p hp => by rcases List.mem_append.1 hp with hp | hp; exact HT.out.2 p hp; simp at hp; subst hp; exact Nat.zero_le _
              obtain ⟨oki, ce, hcl, hM, hcc, hfr, hok, hH⟩ := Kd.S_elem (Kd.S_mono (ok' := fun k => True ∧ ¬ w6.heap.size ≤ k) (Kd.S_bound HS6.out) (fun k hk => ⟨trivial, by have := hk.2.2.1; omega⟩)) z31 (((ps ++ [z31]).length : Int) - 1) (by omega) (by omega)
              obtain ⟨v3, rfl, hv3⟩ := k31_openM hM
              have hl3 := hcc 3 _ rfl
              have hf3 := hfr 3
              rw [show k31.sz = 4 from rfl, show (((ps ++ [z31]).length : Int) - 1).toNat = (ps ++ [z31]).length - 1 by omega] at hl3 hf3
              obtain ⟨L, hL⟩ : ∃ L, (ps ++ [z31]).length = L := ⟨_, rfl⟩
              have hw2 : ((L : Int) - 1) = ((L - 1 : Nat) : Int) := by omega
              have k6 : L ≤ 2049 := by omega
              have k7 : L - 1 < L := by omega
              obtain ⟨ad, hA1, hx⟩ := Kd.at_int (Kd.C_below HC1.out HB6.out) (a : Int) (by omega) (by omega)
              rw [Int.toNat_natCast] at hx
              subst hA1
              have hbl := bytes_last hqb
              have HV3 := Aside0.mk (show (Kd.int .u8).R 5 w6 w.heap.size oki v3 (rd_T31 (ps ++ [z31]) (((ps ++ [z31]).length : Int) - 1)).f3 from hv3)
              obtain ⟨x3, hx3⟩ : ∃ x3, (rd_T31 (ps ++ [z31]) (((ps ++ [z31]).length : Int) - 1)).f3 = x3 := ⟨_, rfl⟩
              have HV4 := HV3
              rw [hx3] at HV4 hbl
              have HBL := Aside0.mk hbl
              have HH3 := Aside0.mk hH
              have HOK := Aside0.mk hok
              have HX3 := Aside0.mk hx3
              have HL := Aside0.mk hL
              have hlx : ∀ o, (w6.alloc o).cell? ⟨gb2, ((ps ++ [z31]).length - 1) * 4 + 3, none⟩ = some v3 := fun o => pw_cell_below (below_alloc (Below.refl _ _) o) hl3
              have hcx : ∀ o, (w6.alloc o).cell? (ad.add a) = some (.int .u8 (rd now (a : Int))) := fun o => pw_cell_below (below_alloc (Below.refl _ _) o) hx
              have hq1 := hq0
              rw [hL] at hl3 hf3 hlx hq1 ⊢
              clear hv3 hH hok hcc hfr hM hbl hx3 hL hqa hqb hq0
              go_wp2
              go_region_law (refine Kd.R_append_step (Kd.int .u8) (w0 := w) (W := w6.drew) w.heap.size rfl (.tmp 100) (.tmp 105) 22 5 (.int .u8 0) 1 rfl Try.underlying22 info5 rfl (by decide) (by decide) v3 x3 (rd now (a : Int)) [.int .u8 (rd now (a : Int))] (fun k => oki k ∨ w6.heap.size ≤ k) (fun _ => False) ?aV ?aX rfl (fun _ hk => hk.elim) ?aF ?aO ?aB ?aS ?aL ?_; (case aV => rfl); (case aX => rfl); (case aF => exact fun _ hk => .inr hk); (case aO => exact Kd.R_drew (Kd.R_mono HV4.out (fun _ h => .inl h))); (case aB => exact (HB6.out).drew); (case aS => exact (HB6.out).size); (case aL => have := HBL.out; omega); intro v1 w1 ho hb hg hat; obtain ⟨A9, c9, hv9⟩ := Kd.R_slice ho; subst hv9; have HO7 := Aside0.mk ho; have HB7 := Aside0.mk hb; have HG7 := Aside0.mk hg; have hc7 : w1.cell? ⟨gb2, (L - 1) * 4 + 3, none⟩ = some v3 := hg.cell (w := w6.drew) hl3 (fun e => (HOK.out gb2 (HV3.out.1 gb2 e.symm)).2 rfl); have hf7 : w1.frozen? ⟨gb2, (L - 1) * 4 + 3, none⟩ = false := (hg.frozen_far (w := w6.drew) _ (World.block_lt_of_cell? w6 _ hl3) (fun e => (HOK.out gb2 (HV3.out.1 gb2 e.symm)).2 rfl)).trans hf3; clear ho hb hg hat)
              all_goals
                go_wp2
                have hO7 := HO7.out
                have hlen : (x3 ++ [rd now (a : Int)]).length = x3.length + 1 := List.length_append
                rw [hlen, ← HX3.out] at hO7
                have hend := tell_end (rd now (a : Int)) (by rw [HL.out]; exact hq1) hgl2 hgb2 HH3.out HV3.out (⟨HG7.out.os, HG7.out.tape, HG7.out.output, HG7.out.size, HG7.out.block⟩ : w6.grownBy w1 v3.ownBlock) hO7 HG6.out HB7.out
                rw [HX3.out, HL.out] at hend
                refine ⟨⟨a + 1, tellByte ps (rd now (a : Int)), by omega, by go_num, ⟨HAB.out⟩, ⟨?_⟩, ⟨?_⟩, ⟨hend.2.1⟩, ⟨hend.2.2⟩⟩, by simp [intOf]; omega⟩
                · rw [show tellByte ps (rd now (a : Int)) = tellOn (ps ++ [z31]) (rd now (a : Int)) by unfold tellByte; rw [hne, if_pos rfl]]
                  exact bytes_tell (by rw [List.length_append]; have := HT.out.1; simp; omega) (fun p hp => by rcases List.mem_append.1 hp with hp | hp; exact HT.out.2 p hp; simp at hp; subst hp; exact Nat.zero_le _) _
                · rw [show tellByte ps (rd now (a : Int)) = tellOn (ps ++ [z31]) (rd now (a : Int)) by unfold tellByte; rw [hne, if_pos rfl]]
                  exact hend.1
            · have hn1 : (rd_T31 ps ((ps.length : Int) - 1)).f0 = true := by
                rcases (Bool.or_eq_true _ _).mp hnn with h | h
                · exact absurd (by simpa using h) hz
                · exact h
              have hp0 : 0 < ps.length := by omega
              clear hnn hz
              obtain ⟨gb, cap, rfl, hgb, hgl, _⟩ := Kd.S_form HS.out hp0
              obtain ⟨ce0, _, hM0, hcc0, _⟩ := Kd.R_elem (Kd.S_R (Kd.S_below HS.out HBX.out)) z31 ((ps.length : Int) - 1) (by omega) (by omega)
              obtain ⟨v0, rfl, _⟩ := k31_openM hM0
              have hl0 := hcc0 0 _ rfl
              rw [show k31.sz = 4 from rfl, Nat.add_zero, show ((ps.length : Int) - 1).toNat = ps.length - 1 by omega] at hl0
              have hrd : ps.getD ((ps.length : Int) - 1).toNat z31 = rd_T31 ps ((ps.length : Int) - 1) := rfl
              rw [show ((ps.length : Int) - 1).toNat = ps.length - 1 by omega] at hrd
              rw [hrd, hn1] at hl0
              have k3 : ((ps.length : Int) == 0) = false := beq_eq_false_iff_ne.mpr (by omega)
              have hw : wrap64 ((ps.length : Int) - 1) = ((ps.length - 1 : Nat) : Int) := by have := HT.out.1; rw [hw64_ (by omega) (by omega)]; omega
              have k5 : ps.length - 1 < ps.length := by omega
              clear hM0 hcc0 hrd hn1
              go_upto_region 22 with (first
                | ((with_reducible refine gate_builtin (b := .append) (xs := #[.tmp 87, .tmp 89]) rfl ?_); at_builtin; refine Kd.S_append k31 (w0 := w) (W := wc) w.heap.size rfl (.tmp 87) (.tmp 89) 26 31 (.agg #[(.bool false), (.int .i64 0), (.int .i64 0), (.slice none 0 0)]) 48 rfl Try.underlying26 info31 rfl (by decide) (by decide) _ ps (z31 : S31) [.bool false, .int .i64 0, .int .i64 0, .slice none 0 0] (fun _ => True) (fun _ => False) rfl rfl (k31_mkM _ _ _ (z31 : S31) (Kd.R_nil _ _ _ _ _)) (fun _ hk => hk.elim) (fun _ _ => trivial) ?aO ?aB ?aS ?aL ?_; (case aO => exact Kd.S_mono (Kd.S_below HS.out HBX.out) (fun _ _ => ⟨trivial, fun h => h⟩)); (case aB => exact below_then HB.out HB.out.size HBX.out); (case aS => exact (below_then HB.out HB.out.size HBX.out).size); (case aL => have := HT.out.1; omega); intro v1 w6 ho hb6 hg6 hat6; have HS6 := Aside0.mk ho; have HB6 := Aside0.mk hb6; have HG6 := Aside0.mk (GM_append (hG := (HG.out.same (SameTy.of_grown (grown_of_below HBX.out none) (by simp) (by simp)))) (hR := Kd.S_R (Kd.S_below HS.out HBX.out)) hg6 (by decide)); clear ho hb6 hg6 hat6))
              clear hl0 k3 hw k5
              obtain ⟨gb2, cap2, hv2, hgb2, hgl2, _⟩ := Kd.S_form HS6.out (by rw [List.length_append]; simp)
              subst hv2
              have hq0 : 0 < (ps ++ [z31]).length := by rw [List.length_append]; simp
              have hqa : (ps ++ [z31]).length ≤ a + 1 := by rw [List.length_append]; have := HT.out.1; simp; omega
              have hqb : ∀ p, p ∈ (ps ++ [z31]) → p.f3.length ≤ a := fun p hp => by rcases List.mem_append.1 hp with hp | hp; exact HT.out.2 p hp; simp at hp; subst hp; exact Nat.zero_le _
              obtain ⟨oki, ce, hcl, hM, hcc, hfr, hok, hH⟩ := Kd.S_elem (Kd.S_mono (ok' := fun k => True ∧ ¬ w6.heap.size ≤ k) (Kd.S_bound HS6.out) (fun k hk => ⟨trivial, by have := hk.2.2.1; omega⟩)) z31 (((ps ++ [z31]).length : Int) - 1) (by omega) (by omega)
              obtain ⟨v3, rfl, hv3⟩ := k31_openM hM
              have hl3 := hcc 3 _ rfl
              have hf3 := hfr 3
              rw [show k31.sz = 4 from rfl, show (((ps ++ [z31]).length : Int) - 1).toNat = (ps ++ [z31]).length - 1 by omega] at hl3 hf3
              obtain ⟨L, hL⟩ : ∃ L, (ps ++ [z31]).length = L := ⟨_, rfl⟩
              have hw2 : ((L : Int) - 1) = ((L - 1 : Nat) : Int) := by omega
              have k6 : L ≤ 2049 := by omega
              have k7 : L - 1 < L := by omega
              obtain ⟨ad, hA1, hx⟩ := Kd.at_int (Kd.C_below HC1.out HB6.out) (a : Int) (by omega) (by omega)
              rw [Int.toNat_natCast] at hx
              subst hA1
              have hbl := bytes_last hqb
              have HV3 := Aside0.mk (show (Kd.int .u8).R 5 w6 w.heap.size oki v3 (rd_T31 (ps ++ [z31]) (((ps ++ [z31]).length : Int) - 1)).f3 from hv3)
              obtain ⟨x3, hx3⟩ : ∃ x3, (rd_T31 (ps ++ [z31]) (((ps ++ [z31]).length : Int) - 1)).f3 = x3 := ⟨_, rfl⟩
              have HV4 := HV3
              rw [hx3] at HV4 hbl
              have HBL := Aside0.mk hbl
              have HH3 := Aside0.mk hH
              have HOK := Aside0.mk hok
              have HX3 := Aside0.mk hx3
              have HL := Aside0.mk hL
              have hlx : ∀ o, (w6.alloc o).cell? ⟨gb2, ((ps ++ [z31]).length - 1) * 4 + 3, none⟩ = some v3 := fun o => pw_cell_below (below_alloc (Below.refl _ _) o) hl3
              have hcx : ∀ o, (w6.alloc o).cell? (ad.add a) = some (.int .u8 (rd now (a : Int))) := fun o => pw_cell_below (below_alloc (Below.refl _ _) o) hx
              have hq1 := hq0
              rw [hL] at hl3 hf3 hlx hq1 ⊢
              clear hv3 hH hok hcc hfr hM hbl hx3 hL hqa hqb hq0
              go_wp2
              go_region_law (refine Kd.R_append_step (Kd.int .u8) (w0 := w) (W := w6.drew) w.heap.size rfl (.tmp 100) (.tmp 105) 22 5 (.int .u8 0) 1 rfl Try.underlying22 info5 rfl (by decide) (by decide) v3 x3 (rd now (a : Int)) [.int .u8 (rd now (a : Int))] (fun k => oki k ∨ w6.heap.size ≤ k) (fun _ => False) ?aV ?aX rfl (fun _ hk => hk.elim) ?aF ?aO ?aB ?aS ?aL ?_; (case aV => rfl); (case aX => rfl); (case aF => exact fun _ hk => .inr hk); (case aO => exact Kd.R_drew (Kd.R_mono HV4.out (fun _ h => .inl h))); (case aB => exact (HB6.out).drew); (case aS => exact (HB6.out).size); (case aL => have := HBL.out; omega); intro v1 w1 ho hb hg hat; obtain ⟨A9, c9, hv9⟩ := Kd.R_slice ho; subst hv9; have HO7 := Aside0.mk ho; have HB7 := Aside0.mk hb; have HG7 := Aside0.mk hg; have hc7 : w1.cell? ⟨gb2, (L - 1) * 4 + 3, none⟩ = some v3 := hg.cell (w := w6.drew) hl3 (fun e => (HOK.out gb2 (HV3.out.1 gb2 e.symm)).2 rfl); have hf7 : w1.frozen? ⟨gb2, (L - 1) * 4 + 3, none⟩ = false := (hg.frozen_far (w := w6.drew) _ (World.block_lt_of_cell? w6 _ hl3) (fun e => (HOK.out gb2 (HV3.out.1 gb2 e.symm)).2 rfl)).trans hf3; clear ho hb hg hat)
              all_goals
                go_wp2
                have hO7 := HO7.out
                have hlen : (x3 ++ [rd now (a : Int)]).length = x3.length + 1 := List.length_append
                rw [hlen, ← HX3.out] at hO7
                have hend := tell_end (rd now (a : Int)) (by rw [HL.out]; exact hq1) hgl2 hgb2 HH3.out HV3.out (⟨HG7.out.os, HG7.out.tape, HG7.out.output, HG7.out.size, HG7.out.block⟩ : w6.grownBy w1 v3.ownBlock) hO7 HG6.out HB7.out
                rw [HX3.out, HL.out] at hend
                refine ⟨⟨a + 1, tellByte ps (rd now (a : Int)), by omega, by go_num, ⟨HAB.out⟩, ⟨?_⟩, ⟨?_⟩, ⟨hend.2.1⟩, ⟨hend.2.2⟩⟩, by simp [intOf]; omega⟩
                · rw [show tellByte ps (rd now (a : Int)) = tellOn (ps ++ [z31]) (rd now (a : Int)) by unfold tellByte; rw [hne, if_pos rfl]]
                  exact bytes_tell (by rw [List.length_append]; have := HT.out.1; simp; omega) (fun p hp => by rcases List.mem_append.1 hp with hp | hp; exact HT.out.2 p hp; simp at hp; subst hp; exact Nat.zero_le _) _
                · rw [show tellByte ps (rd now (a : Int)) = tellOn (ps ++ [z31]) (rd now (a : Int)) by unfold tellByte; rw [hne, if_pos rfl]]
                  exact hend.1
    · have hal : a = now.length := by omega
      have k0b : decide (a < now.length) = false := decide_eq_false k0
      go_wp2
      go_ret2
      refine ⟨_, rfl, ?_, HB.out⟩
      have hA := HA.out
      rw [deltaGo_stop old now a ps k0] at hA
      rw [← hA]
      exact HS.out
set_option maxRecDepth 100000 in
theorem delta_long0 (A : Option Addr) (c : Nat) (l : List Int) (B : Option Addr) (d : Nat) (m : List Int) (w : World) (hl : ¬ l.length ≤ 2048) :
    Calls Try.prog 16 #[.slice A l.length c, .slice B m.length d] w fun e w' => e = .returned (.tuple #[.slice none 0 0, .int .i64 1]) ∧ w' = w := by
  have hl0 : decide (2048 < l.length) = true := decide_eq_true (by omega)
  have hl1 : decide (2048 < (l.length : Int)) = true := decide_eq_true (by omega)
  clear hl
  go_enter Try.func16, Try.ntmps16
  go_wp2
  go_ret2
  exact ⟨rfl, rfl⟩
set_option maxRecDepth 100000 in
theorem delta_long1 (A : Option Addr) (c : Nat) (l : List Int) (B : Option Addr) (d : Nat) (m : List Int) (w : World) (hl : l.length ≤ 2048) (hm : ¬ m.length ≤ 2048) :
    Calls Try.prog 16 #[.slice A l.length c, .slice B m.length d] w fun e w' => e = .returned (.tuple #[.slice none 0 0, .int .i64 1]) ∧ w' = w := by
  have hl0 : decide (2048 < l.length) = false := decide_eq_false (by omega)
  have hl1 : decide (2048 < (l.length : Int)) = false := decide_eq_false (by omega)
  have hm0 : decide (2048 < m.length) = true := decide_eq_true (by omega)
  have hm1 : decide (2048 < (m.length : Int)) = true := decide_eq_true (by omega)
  clear hl hm
  go_enter Try.func16, Try.ntmps16
  go_wp2
  go_ret2
  exact ⟨rfl, rfl⟩
theorem delta_Delta.calls (A0 : Option Addr) (c0 : Nat) (l0 : List Int) (A1 : Option Addr) (c1 : Nat) (l1 : List Int) (r1 : List S31) (r2 : Int) (w : World) (hr0 : Kd.C (Kd.int .u8) w A0 l0.length l0) (hc0 : l0.length ≤ c0) (hr1 : Kd.C (Kd.int .u8) w A1 l1.length l1) (hc1 : l1.length ≤ c1) (h : delta_Delta.f l0 l1 = some (r1, r2)) :
    Calls Try.prog 16 #[.slice A0 l0.length c0, .slice A1 l1.length c1] w fun e w' => ∃ v0_ : Value, e = .returned (.tuple #[v0_, .int .i64 r2]) ∧ Kd.S k31 31 w' w.heap.size (fun _ => True) v0_ r1 ∧ Below w.heap.size w w' := by
  unfold delta_Delta.f at h
  by_cases c : l0.length > 2048 ∨ l1.length > 2048
  · rw [if_pos c] at h
    simp only [Option.some.injEq, Prod.mk.injEq] at h
    obtain ⟨rfl, rfl⟩ := h
    by_cases d : l0.length ≤ 2048
    · refine (delta_long1 A0 c0 l0 A1 c1 l1 w d (by omega)).mono ?_
      rintro e w' ⟨rfl, rfl⟩
      exact ⟨_, rfl, Kd.S_nil _ _ _ _ _, Below.refl _ _⟩
    · refine (delta_long0 A0 c0 l0 A1 c1 l1 w d).mono ?_
      rintro e w' ⟨rfl, rfl⟩
      exact ⟨_, rfl, Kd.S_nil _ _ _ _ _, Below.refl _ _⟩
  · rw [if_neg c] at h
    simp only [Option.some.injEq, Prod.mk.injEq] at h
    obtain ⟨rfl, rfl⟩ := h
    refine (delta_calls A0 c0 l0 A1 c1 l1 w hr0 hc0 hr1 hc1 (by omega) (by omega)).mono ?_
    rintro e w' ⟨v, rfl, h1, h2⟩
    exact ⟨v, rfl, h1, h2⟩

end Go.Proofs.Ytknpmpfcmgjpdaa.PDeltaSmall
