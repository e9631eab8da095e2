/- Proved: for every input the law FairOrder answers true: what came first of a flow is sent first, each packet once, as it came, and something is sent if something waits. Condition: none (every row of numbers). -/
import Derived.Test.YtlgehakaedokeaaPFairOrderx3
namespace Go.Proofs.Ytlgehakaedokeaa.Pure
open Go.RowKit Go.Proofs.Ytlgehakaedokeaa.PFairOrder Go.Proofs.YtlgehakaedokeaaW.PrintWords Go.Proofs.YtlgehakaedokeaaW.PrintLast
set_option linter.unusedVariables false

theorem wrap64_id {x : Int} (h0 : -9223372036854775808 ≤ x) (h1 : x ≤ 9223372036854775807) : wrap64 x = x := by unfold wrap64; omega

theorem picked_eq (a n : Int) (h0 : 0 < n) (h1 : n ≤ 1000000000000) : packthreadkeep_Picked.f a n = some (a % n) := by
  unfold packthreadkeep_Picked.f
  rw [if_neg (by omega)]
  have hm := Int.tmod_eq_emod (a := a) (b := n)
  have hlo := Int.emod_nonneg a (show n ≠ 0 by omega)
  have hhi := Int.emod_lt_of_pos a h0
  by_cases hc : 0 ≤ a ∨ n ∣ a
  · rw [if_pos hc] at hm
    have e : a.tmod n = a % n := by rw [hm]; simp
    rw [e, if_neg (by omega)]
  · rw [if_neg hc] at hm
    have e : a.tmod n = a % n - n := by rw [hm]; congr 1; omega
    rw [e, if_pos (by omega), wrap64_id (by omega) (by omega)]
    congr 1; omega

def FlOk (x : Fl) : Prop := 1 ≤ x.qu ∧ x.qu ≤ 1500 ∧ (∀ s, s ∈ x.ws → 1 ≤ s ∧ s ≤ 1500) ∧ x.ws.length ≤ 40 ∧ 0 ≤ x.de ∧ x.de ≤ 3000 ∧ (x.fd = false → x.de ≤ 1500) ∧ (x.ws = [] → x.de = 0 ∧ x.fd = false)
structure Inv (m : Nat) (fl : List Fl) (tn : List Int) : Prop where
  ok : ∀ x, x ∈ fl → FlOk x
  len : fl.length ≤ 6
  mem : ∀ t, t ∈ tn ↔ ∃ i : Nat, t = (i : Int) ∧ i < fl.length ∧ (fl.getD i zFl).ws ≠ []
  nod : tn.Nodup
  tl : tn.length ≤ m
/-- how far a flow is from being sent of -/
def mF (x : Fl) : Nat := match x.ws with | [] => 0 | s :: _ => 2 * (s - x.de).toNat + (if x.fd = true then 1 else 0)
def MF (fl : List Fl) : Nat := (fl.map mF).sum
theorem sum_set (f : Fl → Nat) (y z : Fl) : ∀ (l : List Fl) (i : Nat), i < l.length → ((l.set i y).map f).sum + f (l.getD i z) = (l.map f).sum + f y
  | [], i, h => by simp at h
  | a :: l, 0, h => by simp; omega
  | a :: l, i + 1, h => by
    have := sum_set f y z l i (by simpa using h)
    simp only [List.set_cons_succ, List.map_cons, List.sum_cons, List.getD_cons_succ]
    omega
theorem getD_set2 (l : List Fl) (i j : Nat) (y z : Fl) (hi : i < l.length) : (l.set i y).getD j z = if j = i then y else l.getD j z := by
  rw [List.getD_eq_getElem?_getD, List.getElem?_set]
  by_cases c : j = i
  · subst c
    rw [if_pos rfl, if_pos hi, if_pos rfl]
    rfl
  · rw [if_neg (fun h => c h.symm), if_neg c, List.getD_eq_getElem?_getD]
theorem getD_mem (l : List Fl) (i : Nat) (z : Fl) (hi : i < l.length) : l.getD i z ∈ l := by
  rw [List.getD_eq_getElem?_getD, List.getElem?_eq_getElem hi]
  exact List.getElem_mem hi
theorem set_ok {fl : List Fl} {y : Fl} (h : ∀ x, x ∈ fl → FlOk x) (hy : FlOk y) (i : Nat) : ∀ x, x ∈ fl.set i y → FlOk x := fun x hx => by
  rcases List.mem_or_eq_of_mem_set hx with h1 | h1
  · exact h x h1
  · rw [h1]; exact hy
theorem MF_le {fl : List Fl} : (∀ x, x ∈ fl → FlOk x) → MF fl ≤ 3001 * fl.length := by
  induction fl with
  | nil => intro _; exact Nat.le_refl _
  | cons a l ih =>
    intro h
    have h1 := ih (fun x hx => h x (List.mem_cons_of_mem _ hx))
    have h2 := h a (List.mem_cons_self ..)
    have h3 : mF a ≤ 3001 := by
      unfold mF
      split
      · omega
      · rename_i s r hw
        have := (h2.2.2.1) s (by rw [hw]; exact List.mem_cons_self ..)
        have := h2.2.2.2.2.1
        split <;> omega
    show ((a :: l).map mF).sum ≤ _
    rw [List.map_cons, List.sum_cons, List.length_cons]
    unfold MF at h1
    omega
theorem Inv.elem {m : Nat} {fl : List Fl} {t : Int} {tr : List Int} (h : Inv m fl (t :: tr)) : ∃ (i : Nat) (s : Int) (r : List Int), t = (i : Int) ∧ i < fl.length ∧ (fl.getD i zFl).ws = s :: r ∧ FlOk (fl.getD i zFl) := by
  obtain ⟨i, h1, h2, h3⟩ := (h.mem t).1 (List.mem_cons_self ..)
  rcases hw : (fl.getD i zFl).ws with _ | ⟨s, r⟩
  · exact absurd hw h3
  · exact ⟨i, s, r, h1, h2, hw, h.ok _ (getD_mem fl i zFl h2)⟩
theorem fed_ok {x : Fl} {s : Int} {r : List Int} (h : FlOk x) (hw : x.ws = s :: r) : (fedF x).qu = x.qu ∧ (fedF x).fd = true ∧ (fedF x).de = (if x.fd = true then x.de else x.de + x.qu) ∧ 0 ≤ (fedF x).de ∧ (fedF x).de ≤ 3000 := by
  obtain ⟨h1, h2, h3, h4, h5, h6, h7, h8⟩ := h
  unfold fedF
  by_cases c : x.fd = true
  · rw [if_pos c, if_pos c]
    exact ⟨rfl, c, rfl, h5, h6⟩
  · rw [if_neg c, if_neg c]
    have h9 := h7 (by simpa using c)
    have e : wrap64 (x.de + x.qu) = x.de + x.qu := wrap64_id (by omega) (by omega)
    refine ⟨rfl, rfl, e, ?_, ?_⟩
    · show 0 ≤ wrap64 (x.de + x.qu)
      omega
    · show wrap64 (x.de + x.qu) ≤ 3000
      omega
/-- what a sending does -/
theorem sends_spec (m : Nat) : ∀ (k : Nat) (fl : List Fl) (tn : List Int), Inv m fl tn → tn ≠ [] → MF fl < k →
    ∃ (i : Nat) (s : Int) (r : List Int) (fl' : List Fl) (tn' : List Int), sendsF k fl tn = some (fl', tn', ⟨0, i, s⟩) ∧ (i : Int) ∈ tn ∧ i < fl.length ∧ (fl.getD i zFl).ws = s :: r ∧ fl'.length = fl.length ∧ (∀ j, (fl'.getD j zFl).ws = if j = i then r else (fl.getD j zFl).ws) ∧ Inv m fl' tn' := by
  intro k
  induction k with
  | zero => intro fl tn _ _ h; omega
  | succ k ih =>
    intro fl tn hI hne hM
    rcases tn with _ | ⟨t, tr⟩
    · exact absurd rfl hne
    obtain ⟨i, s, r, rfl, hi, hw, hok⟩ := hI.elem
    obtain ⟨x, hx⟩ : ∃ x, fl.getD i zFl = x := ⟨_, rfl⟩
    rw [hx] at hw hok
    obtain ⟨f1, f2, f3, f4, f5⟩ := fed_ok hok hw
    have hsr := hok.2.2.1
    have hs : 1 ≤ s ∧ s ≤ 1500 := hsr s (by rw [hw]; exact List.mem_cons_self ..)
    obtain ⟨x1, hx1⟩ : ∃ y, fedF x = y := ⟨_, rfl⟩
    have hw1 : x1.ws = s :: r := by rw [← hx1, fedF_ws]; exact hw
    rw [hx1] at f1 f2 f3 f4 f5
    rw [sendsF]
    simp only [if_pos (show (0 : Int) ≤ (i : Int) ∧ (i : Int) < fl.length by omega), Int.toNat_natCast, hx, hx1, hw1]
    have hnc := List.nodup_cons.1 hI.nod
    have hwsn : ∀ y : Fl, y.ws ≠ [] → ∀ t, (∃ j : Nat, t = (j : Int) ∧ j < fl.length ∧ (fl.getD j zFl).ws ≠ []) ↔ ∃ j : Nat, t = (j : Int) ∧ j < (fl.set i y).length ∧ ((fl.set i y).getD j zFl).ws ≠ [] := by
      intro y hy t
      constructor
      · rintro ⟨j, h1, h2, h3⟩
        refine ⟨j, h1, by rw [List.length_set]; exact h2, ?_⟩
        rw [getD_set2 _ _ _ _ _ hi]
        split
        · exact hy
        · exact h3
      · rintro ⟨j, h1, h2, h3⟩
        rw [List.length_set] at h2
        refine ⟨j, h1, h2, ?_⟩
        rw [getD_set2 _ _ _ _ _ hi] at h3
        by_cases c : j = i
        · rw [c, hx, hw]; simp
        · rw [if_neg c] at h3; exact h3
    by_cases c : s ≤ x1.de
    · rw [if_pos c]
      unfold sentF
      rw [getD_set fl i x1 zFl hi]
      simp only [hw1]
      by_cases hr : r = []
      · rw [if_pos hr]
        refine ⟨i, s, r, _, _, rfl, List.mem_cons_self .., hi, by rw [hx]; exact hw, by rw [List.length_set, List.length_set], ?_, ?_⟩
        · intro j
          rw [List.set_set, getD_set2 _ _ _ _ _ hi]
          split
          · exact hr.symm
          · rfl
        · rw [List.set_set]
          have hok2 : FlOk { x1 with ws := [], de := 0, fd := false } := ⟨by show 1 ≤ x1.qu; rw [f1]; exact hok.1, by show x1.qu ≤ 1500; rw [f1]; exact hok.2.1, fun y hy => by simp at hy, by simp, by simp, by simp, fun _ => by simp, fun _ => ⟨rfl, rfl⟩⟩
          refine ⟨set_ok hI.ok hok2 i, by rw [List.length_set]; exact hI.len, ?_, hnc.2, by have := hI.tl; rw [List.length_cons] at this; omega⟩
          intro t
          constructor
          · intro ht
            obtain ⟨j, h1, h2, h3⟩ := (hI.mem t).1 (List.mem_cons_of_mem _ ht)
            refine ⟨j, h1, by rw [List.length_set]; exact h2, ?_⟩
            rw [getD_set2 _ _ _ _ _ hi, if_neg]
            · exact h3
            · intro e
              subst e
              rw [h1] at ht
              exact hnc.1 ht
          · rintro ⟨j, h1, h2, h3⟩
            rw [List.length_set] at h2
            rw [getD_set2 _ _ _ _ _ hi] at h3
            by_cases e : j = i
            · rw [if_pos e] at h3; exact absurd rfl h3
            · rw [if_neg e] at h3
              rcases List.mem_cons.1 ((hI.mem t).2 ⟨j, h1, h2, h3⟩) with h4 | h4
              · omega
              · exact h4
      · rw [if_neg hr]
        have e : wrap64 (x1.de - s) = x1.de - s := wrap64_id (by omega) (by omega)
        rw [e]
        refine ⟨i, s, r, _, _, rfl, List.mem_cons_self .., hi, by rw [hx]; exact hw, by rw [List.length_set, List.length_set], ?_, ?_⟩
        · intro j
          rw [List.set_set, getD_set2 _ _ _ _ _ hi]
          split <;> rfl
        · rw [List.set_set]
          have hok2 : FlOk { x1 with ws := r, de := x1.de - s } := ⟨by show 1 ≤ x1.qu; rw [f1]; exact hok.1, by show x1.qu ≤ 1500; rw [f1]; exact hok.2.1, fun y hy => hsr y (by rw [hw]; exact List.mem_cons_of_mem _ hy), by have := hok.2.2.2.1; rw [hw] at this; simp at this; show r.length ≤ 40; omega, by show 0 ≤ x1.de - s; omega, by show x1.de - s ≤ 3000; omega, fun h => by rw [show x1.fd = true from f2] at h; exact absurd h (by simp), fun h => absurd h hr⟩
          exact ⟨set_ok hI.ok hok2 i, by rw [List.length_set]; exact hI.len, fun t => (hI.mem t).trans (hwsn _ hr t), hI.nod, hI.tl⟩
    · rw [if_neg c]
      have hok2 : FlOk { x1 with ws := s :: r, fd := false } := ⟨by show 1 ≤ x1.qu; rw [f1]; exact hok.1, by show x1.qu ≤ 1500; rw [f1]; exact hok.2.1, fun y hy => hsr y (by rw [hw]; exact hy), by have := hok.2.2.2.1; rw [hw] at this; exact this, f4, f5, fun _ => by show x1.de ≤ 1500; omega, fun h => by simp at h⟩
      have hmem2 : ∀ t, t ∈ tr ++ [(i : Int)] ↔ t ∈ (i : Int) :: tr := fun t => by rw [List.mem_append, List.mem_singleton, List.mem_cons]; exact ⟨fun h => h.symm, fun h => h.symm⟩
      have hI2 : Inv m (fl.set i { x1 with ws := s :: r, fd := false }) (tr ++ [(i : Int)]) := by
        refine ⟨set_ok hI.ok hok2 i, by rw [List.length_set]; exact hI.len, fun t => (hmem2 t).trans ((hI.mem t).trans (hwsn _ (by simp) t)), ?_, by have := hI.tl; rw [List.length_append]; rw [List.length_cons] at this; simpa using this⟩
        rw [List.nodup_append]
        refine ⟨hnc.2, by simp, ?_⟩
        intro a ha b hb
        rw [List.mem_singleton] at hb
        subst hb
        intro e
        subst e
        exact hnc.1 ha
      have hm1 := sum_set mF { x1 with ws := s :: r, fd := false } zFl fl i hi
      rw [hx] at hm1
      have hm2 : mF { x1 with ws := s :: r, fd := false } < mF x := by
        unfold mF
        rw [hw]
        simp only [Bool.false_eq_true, if_false]
        by_cases cf : x.fd = true
        · rw [if_pos cf] at f3 ⊢
          rw [f3]
          omega
        · rw [if_neg cf] at f3 ⊢
          rw [f3] at c ⊢
          have := hok.1
          omega
      obtain ⟨i', s', r', fl', tn', g1, g2, g3, g4, g5, g6, g7⟩ := ih _ _ hI2 (by simp) (by unfold MF at hM ⊢; omega)
      rw [List.length_set] at g3 g5
      have hgd : ∀ j, ((fl.set i { x1 with ws := s :: r, fd := false }).getD j zFl).ws = (fl.getD j zFl).ws := fun j => by
        rw [getD_set2 _ _ _ _ _ hi]
        split
        · rename_i e; rw [e, hx, hw]
        · rfl
      refine ⟨i', s', r', fl', tn', g1, (hmem2 _).1 g2, g3, by rw [← hgd]; exact g4, g5, fun j => by rw [g6 j, hgd j], g7⟩
theorem sendsO_spec {m : Nat} {fl : List Fl} {tn : List Int} (h : Inv m fl tn) (hm : m ≤ 1000) (hne : tn ≠ []) : ∃ (i : Nat) (s : Int) (r : List Int) (fl' : List Fl) (tn' : List Int), sendsO fl tn = some (fl', tn', ⟨0, i, s⟩) ∧ (i : Int) ∈ tn ∧ i < fl.length ∧ (fl.getD i zFl).ws = s :: r ∧ fl'.length = fl.length ∧ (∀ j, (fl'.getD j zFl).ws = if j = i then r else (fl.getD j zFl).ws) ∧ Inv m fl' tn' := by
  have h1 := MF_le h.ok
  have h2 := h.len
  have h3 := h.tl
  unfold sendsO
  rw [if_pos (by omega), if_neg hne]
  exact sends_spec m fairFuel fl tn h hne (by unfold fairFuel; omega)
theorem sendsO_none {m : Nat} {fl : List Fl} (_ : Inv m fl []) : sendsO fl [] = some (fl, [], ⟨7, 0, 0⟩) := by
  unfold sendsO
  rw [if_pos (by simp), if_pos rfl]
/-- what a coming does -/
theorem comesO_full {m : Nat} {fl : List Fl} {tn : List Int} (h : Inv m fl tn) (hm : m ≤ 1000) (i : Nat) (z : Int) (hi : i < fl.length) (hz : z ≤ 1500) (hf : (fl.getD i zFl).ws.length = 40) : comesO fl tn ⟨i, z⟩ = some (fl, tn, ⟨9, 0, 0⟩) := by
  have h3 := h.tl
  unfold comesO
  rw [if_pos (by omega), if_neg (by show ¬ ((i : Int) < 0 ∨ (fl.length : Int) ≤ (i : Int) ∨ 1500 < z); omega)]
  show (if (fl.getD ((i : Int)).toNat zFl).ws.length = 40 then _ else _) = _
  rw [Int.toNat_natCast, if_pos hf]
theorem comesO_spec {m : Nat} {fl : List Fl} {tn : List Int} (h : Inv m fl tn) (hm : m ≤ 1000) (i : Nat) (z : Int) (hi : i < fl.length) (h0 : 1 ≤ z) (hz : z ≤ 1500) (hf : ¬ (fl.getD i zFl).ws.length = 40) :
    ∃ fl' tn', comesO fl tn ⟨i, z⟩ = some (fl', tn', ⟨0, 0, 0⟩) ∧ fl'.length = fl.length ∧ (∀ j, (fl'.getD j zFl).ws = if j = i then (fl.getD i zFl).ws ++ [z] else (fl.getD j zFl).ws) ∧ Inv (m + 1) fl' tn' := by
  have h3 := h.tl
  have hok := h.ok _ (getD_mem fl i zFl hi)
  have hl := hok.2.2.2.1
  unfold comesO
  rw [if_pos (by omega), if_neg (by show ¬ ((i : Int) < 0 ∨ (fl.length : Int) ≤ (i : Int) ∨ 1500 < z); omega)]
  simp only [Int.toNat_natCast]
  rw [if_neg hf, if_pos (by omega)]
  obtain ⟨x, hx⟩ : ∃ x, fl.getD i zFl = x := ⟨_, rfl⟩
  rw [hx] at hok hl hf ⊢
  refine ⟨_, _, rfl, by rw [List.length_set], fun j => by rw [getD_set2 _ _ _ _ _ hi]; split <;> rfl, ?_⟩
  have hok2 : FlOk { x with ws := x.ws ++ [z] } := by
    obtain ⟨a1, a2, a3, a4, a5, a6, a7, a8⟩ := hok
    refine ⟨a1, a2, fun s hs => ?_, by show (x.ws ++ [z]).length ≤ 40; rw [List.length_append]; simp; omega, a5, a6, a7, fun e => by simp at e⟩
    rcases List.mem_append.1 hs with hs | hs
    · exact a3 s hs
    · rw [List.mem_singleton] at hs; rw [hs]; exact ⟨h0, hz⟩
  have hmem : ∀ t, (∃ j : Nat, t = (j : Int) ∧ j < (fl.set i { x with ws := x.ws ++ [z] }).length ∧ ((fl.set i { x with ws := x.ws ++ [z] }).getD j zFl).ws ≠ []) ↔ t = (i : Int) ∨ ∃ j : Nat, t = (j : Int) ∧ j < fl.length ∧ (fl.getD j zFl).ws ≠ [] := by
    intro t
    constructor
    · rintro ⟨j, g1, g2, g3⟩
      rw [List.length_set] at g2
      rw [getD_set2 _ _ _ _ _ hi] at g3
      by_cases c : j = i
      · left; omega
      · rw [if_neg c] at g3; exact .inr ⟨j, g1, g2, g3⟩
    · rintro (g | ⟨j, g1, g2, g3⟩)
      · refine ⟨i, g, by rw [List.length_set]; exact hi, ?_⟩
        rw [getD_set2 _ _ _ _ _ hi, if_pos rfl]
        simp
      · refine ⟨j, g1, by rw [List.length_set]; exact g2, ?_⟩
        rw [getD_set2 _ _ _ _ _ hi]
        split
        · simp
        · exact g3
  by_cases c : x.ws.length = 0
  · rw [if_pos c]
    have hni : (i : Int) ∉ tn := fun hm => by
      obtain ⟨j, g1, g2, g3⟩ := (h.mem _).1 hm
      have : j = i := by omega
      rw [this, hx] at g3
      exact g3 (List.eq_nil_of_length_eq_zero c)
    refine ⟨set_ok h.ok hok2 i, by rw [List.length_set]; exact h.len, fun t => ?_, ?_, by rw [List.length_append]; simp; omega⟩
    · rw [hmem t, ← h.mem t, List.mem_append, List.mem_singleton]
      exact ⟨fun g => g.symm, fun g => g.symm⟩
    · rw [List.nodup_append]
      refine ⟨h.nod, by simp, ?_⟩
      intro a ha b hb
      rw [List.mem_singleton] at hb
      subst hb
      intro e
      subst e
      exact hni ha
  · rw [if_neg c]
    refine ⟨set_ok h.ok hok2 i, by rw [List.length_set]; exact h.len, fun t => ?_, h.nod, by omega⟩
    rw [hmem t, ← h.mem t]
    constructor
    · exact fun g => .inr g
    · rintro (g | g)
      · exact (h.mem t).2 ⟨i, g, hi, by rw [hx]; intro e; rw [e] at c; exact c rfl⟩
      · exact g
theorem Inv.start (qs : List Int) (h6 : qs.length ≤ 6) (hg : ∀ n, n ∈ qs → 1 ≤ n ∧ n ≤ 1500) : Inv 0 (qs.map fun n => ⟨n, [], 0, false⟩) [] := by
  refine ⟨fun x hx => ?_, by rw [List.length_map]; exact h6, fun t => ?_, List.nodup_nil, Nat.le_refl _⟩
  · obtain ⟨n, hn, rfl⟩ := List.mem_map.1 hx
    have := hg n hn
    exact ⟨this.1, this.2, fun s hs => by simp at hs, by simp, by simp, by simp, fun _ => by simp, fun _ => ⟨rfl, rfl⟩⟩
  · constructor
    · intro h; simp at h
    · rintro ⟨j, g1, g2, g3⟩
      exfalso
      apply g3
      rw [List.length_map] at g2
      rw [List.getD_eq_getElem?_getD, List.getElem?_map, List.getElem?_eq_getElem g2]
      rfl
theorem Inv.more {m n : Nat} {fl : List Fl} {tn : List Int} (h : Inv m fl tn) (hn : m ≤ n) : Inv n fl tn := ⟨h.ok, h.len, h.mem, h.nod, by have := h.tl; omega⟩

theorem quanta_l0 (l : List Int) : ∀ (m i k : Nat) (x : List Int), i + m = 3 → m < k → x.length = 3 → (∀ n, n ∈ x → 1 ≤ n ∧ n ≤ 200) → ∃ q, packthreadkeep_Quanta.l0 k l x (i : Int) = some q ∧ q.length = 3 ∧ ∀ n, n ∈ q → 1 ≤ n ∧ n ≤ 200 := by
  intro m
  induction m with
  | zero =>
    intro i k x h1 h2 h3 h4
    obtain ⟨k, rfl⟩ : ∃ q, k = q + 1 := ⟨k - 1, by omega⟩
    exact ⟨x, by rw [packthreadkeep_Quanta.l0, if_neg (by omega)], h3, h4⟩
  | succ m ih =>
    intro i k x h1 h2 h3 h4
    obtain ⟨k, rfl⟩ : ∃ q, k = q + 1 := ⟨k - 1, by omega⟩
    rw [packthreadkeep_Quanta.l0, if_pos (by omega)]
    by_cases c : (i : Int) < (l.length : Int)
    · have hp0 := Int.emod_nonneg (rd l (i : Int)) (show (200 : Int) ≠ 0 by omega)
      have hp1 := Int.emod_lt_of_pos (rd l (i : Int)) (show (0 : Int) < 200 by omega)
      rw [if_pos c, if_pos (by omega), picked_eq _ _ (by decide) (by decide), Option.bind_some, if_pos (by omega), wrap64_id (x := (i : Int) + 1) (by omega) (by omega), wrap64_id (x := 1 + rd l (i : Int) % 200) (by omega) (by omega)]
      refine ih (i + 1) k _ (by omega) (by omega) (by rw [List.length_set]; exact h3) ?_
      intro n hn
      rcases List.mem_or_eq_of_mem_set hn with h | h
      · exact h4 n h
      · omega
    · rw [if_neg c]
      exact ⟨x, rfl, h3, h4⟩
theorem quanta_eq (k : Nat) (l : List Int) (hk : 10 ≤ k) : ∃ q, packthreadkeep_Quanta.f k l = some q ∧ q.length = 3 ∧ ∀ n, n ∈ q → 1 ≤ n ∧ n ≤ 200 := by
  unfold packthreadkeep_Quanta.f
  refine quanta_l0 l 3 0 k _ (by omega) (by omega) rfl ?_
  intro n hn
  simp at hn
  omega
theorem play_len : ∀ (l : List S50) (fl : List Fl) (tn : List Int) (out res : List S52), playF l fl tn out = some res → res.length = out.length + l.length
  | [], fl, tn, out, res, h => by
    rw [playF] at h
    injection h with h
    subst h
    rfl
  | a :: l, fl, tn, out, res, h => by
    rw [playF] at h
    by_cases c : 0 < a.f1
    · rw [if_pos c] at h
      rcases hc : comesO fl tn a with _ | r
      · rw [hc] at h; exact absurd h (by simp)
      · rw [hc] at h
        have := play_len l _ _ _ _ h
        rw [this, List.length_append, List.length_cons, List.length_cons, List.length_nil]
        omega
    · rw [if_neg c] at h
      by_cases d : a.f1 < 0
      · rw [if_pos d] at h
        have := play_len l _ _ _ _ h
        rw [this, List.length_append, List.length_cons, List.length_cons, List.length_nil]
        omega
      · rw [if_neg d] at h
        rcases hc : sendsO fl tn with _ | r
        · rw [hc] at h; exact absurd h (by simp)
        · rw [hc] at h
          have := play_len l _ _ _ _ h
          rw [this, List.length_append, List.length_cons, List.length_cons, List.length_nil]
          omega
theorem one_eq : fair_Play.f [3] [(⟨0, 7⟩ : S50), (⟨0, 0⟩ : S50)] = some ([⟨0, 0, 0⟩, ⟨0, 0, 7⟩], 0) := by
  have h0 := Inv.start [3] (by simp) (by intro n hn; simp at hn; omega)
  obtain ⟨fl1, tn1, g1, g2, g3, g4⟩ := comesO_spec h0 (by omega) 0 7 (by simp) (by omega) (by omega) (by simp)
  have hw0 : (fl1.getD 0 zFl).ws = [7] := by rw [g3 0, if_pos rfl]; rfl
  have hl1 : fl1.length = 1 := by rw [g2]; rfl
  have hne : tn1 ≠ [] := by
    have := (g4.mem (0 : Int)).2 ⟨0, rfl, by omega, by rw [hw0]; simp⟩
    intro e
    rw [e] at this
    simp at this
  obtain ⟨i, s, r, fl2, tn2, k1, k2, k3, k4, _⟩ := sendsO_spec g4 (by omega) hne
  obtain rfl : i = 0 := by omega
  rw [hw0] at k4
  injection k4 with k4 _
  subst k4
  unfold fair_Play.f
  rw [if_pos ⟨by simp, by simp, by simp, by intro n hn; simp at hn; omega⟩]
  have : playF [(⟨0, 7⟩ : S50), (⟨0, 0⟩ : S50)] ([3].map fun n => (⟨n, [], 0, false⟩ : Fl)) [] [] = some [⟨0, 0, 0⟩, ⟨0, 0, 7⟩] := by
    rw [playF, if_pos (by decide)]
    rw [show comesO ([3].map fun n => (⟨n, [], 0, false⟩ : Fl)) [] ⟨0, 7⟩ = _ from g1]
    show playF [⟨0, 0⟩] fl1 tn1 _ = _
    rw [playF, if_neg (by decide), if_neg (by decide), k1]
    rfl
  rw [this]
theorem lined_eq (q : List Int) (l : List S50) (res : List S52) (hq : q.length = 3) (hg : ∀ n, n ∈ q → 1 ≤ n ∧ n ≤ 1500) (hl : l.length ≤ 300) (h : playF l (q.map fun n => ⟨n, [], 0, false⟩) [] [] = some res) : packthreadkeep_lined.f q l = some (res, true) := by
  have hlen := play_len l _ _ _ _ h
  unfold packthreadkeep_lined.f
  rw [if_pos (by rw [List.length_nil]; omega), if_pos (by rw [List.length_nil]; omega), List.nil_append, List.nil_append]
  have hp : fair_Play.f q l = some (res, 0) := by
    unfold fair_Play.f
    rw [if_pos ⟨by omega, by omega, hl, hg⟩, h]
  rw [hp, Option.bind_some, one_eq, Option.bind_some, if_pos rfl]
  show (if ((res.length : Nat) : Int) = (l.length : Int) then _ else _) = _
  rw [if_pos (by rw [hlen]; simp), if_pos rfl]
  rfl

def FeedOk (a : S50) : Prop := (a.f0 = 0 ∧ a.f1 = 0) ∨ ∃ i : Nat, a.f0 = (i : Int) ∧ i < 3 ∧ 1 ≤ a.f1 ∧ a.f1 ≤ 150
theorem feeds_l0 (l : List Int) (n : Nat) (hn : n ≤ 1000) : ∀ (m i k : Nat) (x : List S50), i + m = n → 2 * m + 2 ≤ k → x.length = i → (∀ a, a ∈ x → FeedOk a) → ∃ fs, packthreadkeep_Feeds.l0 k l (n : Int) x (i : Int) = some fs ∧ fs.length ≤ n ∧ ∀ a, a ∈ fs → FeedOk a := by
  intro m
  induction m with
  | zero =>
    intro i k x h1 h2 h3 h4
    obtain ⟨k, rfl⟩ : ∃ q, k = q + 2 := ⟨k - 2, by omega⟩
    have hj : packthreadkeep_Feeds.j1 (k + 1) l (n : Int) x (i : Int) false = some x := by rw [packthreadkeep_Feeds.j1, if_neg (by decide)]
    refine ⟨x, ?_, by omega, h4⟩
    rw [packthreadkeep_Feeds.l0, decide_eq_false (by omega), hj]
    split <;> rfl
  | succ m ih =>
    intro i k x h1 h2 h3 h4
    obtain ⟨k, rfl⟩ : ∃ q, k = q + 2 := ⟨k - 2, by omega⟩
    rw [packthreadkeep_Feeds.l0]
    by_cases c : (i : Int) < (l.length : Int)
    · have a0 := Int.emod_nonneg (wrap64 (Int.tdiv (rd l (i : Int)) 7)) (show (3 : Int) ≠ 0 by omega)
      have a1 := Int.emod_lt_of_pos (wrap64 (Int.tdiv (rd l (i : Int)) 7)) (show (0 : Int) < 3 by omega)
      have b0 := Int.emod_nonneg (wrap64 (Int.tdiv (rd l (i : Int)) 21)) (show (150 : Int) ≠ 0 by omega)
      have b1 := Int.emod_lt_of_pos (wrap64 (Int.tdiv (rd l (i : Int)) 21)) (show (0 : Int) < 150 by omega)
      rw [if_pos c, decide_eq_true (show (i : Int) < (n : Int) by omega), packthreadkeep_Feeds.j1, if_pos rfl, if_pos (by omega), if_pos c, picked_eq _ _ (by decide) (by decide), Option.bind_some]
      split
      · rw [picked_eq _ _ (by decide) (by decide), Option.bind_some, picked_eq _ _ (by decide) (by decide), Option.bind_some, if_pos (by omega), wrap64_id (x := (i : Int) + 1) (by omega) (by omega), wrap64_id (x := 1 + _ % 150) (by omega) (by omega)]
        refine ih (i + 1) k _ (by omega) (by omega) (by rw [List.length_append, h3]; rfl) (fun a ha => ?_)
        rcases List.mem_append.1 ha with ha | ha
        · exact h4 a ha
        · rw [List.mem_singleton] at ha
          subst ha
          exact .inr ⟨(wrap64 (Int.tdiv (rd l (i : Int)) 7) % 3).toNat, by show wrap64 (Int.tdiv (rd l (i : Int)) 7) % 3 = (((wrap64 (Int.tdiv (rd l (i : Int)) 7) % 3).toNat : Nat) : Int); omega, by omega, by show 1 ≤ 1 + _; omega, by show 1 + _ ≤ 150; omega⟩
      · rw [if_pos (by omega), wrap64_id (x := (i : Int) + 1) (by omega) (by omega)]
        refine ih (i + 1) k _ (by omega) (by omega) (by rw [List.length_append, h3]; rfl) (fun a ha => ?_)
        rcases List.mem_append.1 ha with ha | ha
        · exact h4 a ha
        · rw [List.mem_singleton] at ha
          subst ha
          exact .inl ⟨rfl, rfl⟩
    · have hj : packthreadkeep_Feeds.j1 (k + 1) l (n : Int) x (i : Int) false = some x := by rw [packthreadkeep_Feeds.j1, if_neg (by decide)]
      rw [if_neg c, hj]
      exact ⟨x, rfl, by omega, h4⟩
theorem feeds_eq (k : Nat) (l : List Int) (n : Nat) (hn : n ≤ 1000) (hk : 3000 ≤ k) : ∃ fs, packthreadkeep_Feeds.f k l (n : Int) = some fs ∧ fs.length ≤ n ∧ ∀ a, a ∈ fs → FeedOk a := by
  unfold packthreadkeep_Feeds.f
  exact feeds_l0 l n hn n 0 k [] (by omega) (by omega) rfl (fun a ha => by simp at ha)

def wxF (fl : List Fl) : List (List Int) := [(fl.getD 0 zFl).ws, (fl.getD 1 zFl).ws, (fl.getD 2 zFl).ws]
def wcI (fl : List Fl) : Int := ((fl.getD 0 zFl).ws.length : Int) + ((fl.getD 1 zFl).ws.length : Int) + ((fl.getD 2 zFl).ws.length : Int)
theorem getT_wx (fl : List Fl) (i : Nat) (hi : i < 3) : (wxF fl).getD i [] = (fl.getD i zFl).ws := by
  have : i = 0 ∨ i = 1 ∨ i = 2 := by omega
  rcases this with rfl | rfl | rfl <;> rfl
theorem setT_wx (fl fl' : List Fl) (i : Nat) (hi : i < 3) (y : List Int) (h : ∀ j, (fl'.getD j zFl).ws = if j = i then y else (fl.getD j zFl).ws) : (wxF fl).set i y = wxF fl' := by
  have h0 := h 0
  have h1 := h 1
  have h2 := h 2
  unfold wxF
  have : i = 0 ∨ i = 1 ∨ i = 2 := by omega
  rcases this with rfl | rfl | rfl
  · rw [if_pos rfl] at h0
    rw [if_neg (by omega)] at h1 h2
    rw [h0, h1, h2]; rfl
  · rw [if_pos rfl] at h1
    rw [if_neg (by omega)] at h0 h2
    rw [h0, h1, h2]; rfl
  · rw [if_pos rfl] at h2
    rw [if_neg (by omega)] at h0 h1
    rw [h0, h1, h2]; rfl
theorem wc_step (fl fl' : List Fl) (i : Nat) (hi : i < 3) (y : List Int) (d : Int) (h : ∀ j, (fl'.getD j zFl).ws = if j = i then y else (fl.getD j zFl).ws) (hd : (y.length : Int) = ((fl.getD i zFl).ws.length : Int) + d) : wcI fl' = wcI fl + d := by
  have h0 := h 0
  have h1 := h 1
  have h2 := h 2
  unfold wcI
  have : i = 0 ∨ i = 1 ∨ i = 2 := by omega
  rcases this with rfl | rfl | rfl
  · rw [if_pos rfl] at h0
    rw [if_neg (by omega)] at h1 h2
    rw [h0, h1, h2]; omega
  · rw [if_pos rfl] at h1
    rw [if_neg (by omega)] at h0 h2
    rw [h0, h1, h2]; omega
  · rw [if_pos rfl] at h2
    rw [if_neg (by omega)] at h0 h1
    rw [h0, h1, h2]; omega
theorem wc_bound {m : Nat} {fl : List Fl} {tn : List Int} (h : Inv m fl tn) (hl : fl.length = 3) : 0 ≤ wcI fl ∧ wcI fl ≤ 120 := by
  have g := fun i (hi : i < 3) => (h.ok _ (getD_mem fl i zFl (by omega))).2.2.2.1
  have g0 := g 0 (by omega)
  have g1 := g 1 (by omega)
  have g2 := g 2 (by omega)
  unfold wcI
  omega
theorem order_play : ∀ (l : List S50) (m : Nat) (fl : List Fl) (tn : List Int), Inv m fl tn → fl.length = 3 → m + l.length ≤ 1000 → (∀ a, a ∈ l → FeedOk a) →
    ∃ rs : List S52, rs.length = l.length ∧ (∀ out, playF l fl tn out = some (out ++ rs)) ∧ oGo l rs (wxF fl) (wcI fl)
  | [], m, fl, tn, _, _, _, _ => ⟨[], rfl, fun out => by rw [playF, List.append_nil], by rw [oGo]; trivial; intro a l o r e; cases e⟩
  | a :: l, m, fl, tn, h, hl, hm, ha => by
    rw [List.length_cons] at hm
    have hw := wc_bound h hl
    have hall := fun b hb => ha b (List.mem_cons_of_mem a hb)
    rcases ha a (List.mem_cons_self ..) with ⟨e0, e1⟩ | ⟨i, e0, e1, e2, e3⟩
    · have hp : ∀ out, playF (a :: l) fl tn out = (sendsO fl tn).bind fun r => playF l r.1 r.2.1 (out ++ [r.2.2]) := fun out => by
        rw [playF, if_neg (by omega), if_neg (by omega)]
        cases sendsO fl tn <;> rfl
      by_cases d : tn = []
      · subst d
        obtain ⟨rs, k1, k2, k3⟩ := order_play l m fl [] h hl (by omega) hall
        refine ⟨⟨7, 0, 0⟩ :: rs, by rw [List.length_cons, List.length_cons, k1], fun out => by rw [hp, sendsO_none h]; show playF l fl [] (out ++ [⟨7, 0, 0⟩]) = _; rw [k2, List.append_assoc]; rfl, ?_⟩
        have hz : wcI fl = 0 := by
          have g : ∀ j, j < 3 → (fl.getD j zFl).ws = [] := fun j hj => by
            rcases hw : (fl.getD j zFl).ws with _ | ⟨s, r⟩
            · rfl
            · have := (h.mem (j : Int)).2 ⟨j, rfl, by omega, by rw [hw]; simp⟩
              simp at this
          unfold wcI
          rw [g 0 (by omega), g 1 (by omega), g 2 (by omega)]
          rfl
        rw [oGo]
        exact .inr ⟨by omega, .inl ⟨rfl, hz, k3⟩⟩
      · obtain ⟨i, s, r, fl', tn', g1, g2, g3, g4, g5, g6, g7⟩ := sendsO_spec h (by omega) d
        obtain ⟨rs, k1, k2, k3⟩ := order_play l m fl' tn' g7 (by omega) (by omega) hall
        refine ⟨⟨0, (i : Int), s⟩ :: rs, by rw [List.length_cons, List.length_cons, k1], fun out => by rw [hp, g1]; show playF l fl' tn' (out ++ [⟨0, (i : Int), s⟩]) = _; rw [k2, List.append_assoc]; rfl, ?_⟩
        have hc := wc_step fl fl' i (by omega) r (-1) g6 (by rw [g4, List.length_cons]; omega)
        have hpos : 0 < wcI fl := by
          have := wc_bound g7 (by omega)
          omega
        rw [oGo]
        refine .inr ⟨by omega, .inr ⟨rfl, hpos, by omega, i, rfl, by omega, r, ?_, ?_⟩⟩
        · show (wxF fl).getD i [] = s :: r
          rw [getT_wx fl i (by omega), g4]
        · show oGo l rs ((wxF fl).set i r) (wcI fl - 1)
          rw [setT_wx fl fl' i (by omega) r g6, show wcI fl - 1 = wcI fl' by omega]
          exact k3
    · have hp : ∀ out, playF (a :: l) fl tn out = (comesO fl tn a).bind fun r => playF l r.1 r.2.1 (out ++ [r.2.2]) := fun out => by
        rw [playF, if_pos (by omega)]
        cases comesO fl tn a <;> rfl
      have ea : a = ⟨(i : Int), a.f1⟩ := by rw [← e0]
      by_cases d : (fl.getD i zFl).ws.length = 40
      · have g := comesO_full h (by omega) i a.f1 (by omega) (by omega) d
        rw [← ea] at g
        obtain ⟨rs, k1, k2, k3⟩ := order_play l m fl tn h hl (by omega) hall
        refine ⟨⟨9, 0, 0⟩ :: rs, by rw [List.length_cons, List.length_cons, k1], fun out => by rw [hp, g]; show playF l fl tn (out ++ [⟨9, 0, 0⟩]) = _; rw [k2, List.append_assoc]; rfl, ?_⟩
        rw [oGo]
        exact .inl ⟨by omega, i, e0, e1, .inr ⟨rfl, by rw [getT_wx fl i e1]; exact d, k3⟩⟩
      · obtain ⟨fl', tn', g1, g2, g3, g4⟩ := comesO_spec h (by omega) i a.f1 (by omega) (by omega) (by omega) d
        rw [← ea] at g1
        obtain ⟨rs, k1, k2, k3⟩ := order_play l (m + 1) fl' tn' g4 (by omega) (by omega) hall
        refine ⟨⟨0, 0, 0⟩ :: rs, by rw [List.length_cons, List.length_cons, k1], fun out => by rw [hp, g1]; show playF l fl' tn' (out ++ [⟨0, 0, 0⟩]) = _; rw [k2, List.append_assoc]; rfl, ?_⟩
        have hb := (h.ok _ (getD_mem fl i zFl (by omega))).2.2.2.1
        have hc := wc_step fl fl' i e1 ((fl.getD i zFl).ws ++ [a.f1]) 1 g3 (by rw [List.length_append]; simp)
        rw [oGo]
        refine .inl ⟨by omega, i, e0, e1, .inl ⟨rfl, by rw [getT_wx fl i e1]; omega, by omega, by omega, ?_⟩⟩
        rw [getT_wx fl i e1, setT_wx fl fl' i e1 _ g3, ← hc]
        exact k3
theorem FairOrder : packthreadkeep_FairOrder.Pure := by
  intro l0 l1 _ _ _ _ _ _
  obtain ⟨k, hk⟩ : ∃ k, 3000 ≤ k := ⟨3000, Nat.le_refl _⟩
  obtain ⟨fs, f1, f2, f3⟩ := feeds_eq k l1 200 (by omega) hk
  obtain ⟨q, q1, q2, q3⟩ := quanta_eq k l0 (by omega)
  have hq : ∀ n, n ∈ q → 1 ≤ n ∧ n ≤ 1500 := fun n hn => by have := q3 n hn; omega
  have h0 := Inv.start q (by omega) hq
  have hws0 : ∀ j, ((q.map fun n => (⟨n, [], 0, false⟩ : Fl)).getD j zFl).ws = [] := fun j => by
    rw [List.getD_eq_getElem?_getD, List.getElem?_map]
    rcases q[j]? with _ | v <;> rfl
  obtain ⟨rs, k1, k2, k3⟩ := order_play fs 0 _ [] h0 (by rw [List.length_map]; exact q2) (by omega) f3
  have e1 : wxF (q.map fun n => (⟨n, [], 0, false⟩ : Fl)) = [[], [], []] := by unfold wxF; rw [hws0, hws0, hws0]
  have e2 : wcI (q.map fun n => (⟨n, [], 0, false⟩ : Fl)) = 0 := by unfold wcI; rw [hws0, hws0, hws0]; rfl
  rw [e1, e2] at k3
  have hp := k2 []
  rw [List.nil_append] at hp
  exact ⟨k, fs, q, rs, f1, f2, q1, k1, k3, lined_eq q _ _ q2 hq (by omega) hp⟩

end Go.Proofs.Ytlgehakaedokeaa.Pure
