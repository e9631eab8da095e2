/- Proved: for every input the law FairShare answers true: of two flows of which something always waits neither gets much more than the other. Condition: none (every row of numbers, every number). -/
import Derived.Test.YtlgehakaedokeaaPFairSharex4
namespace Go.Proofs.Ytlgehakaedokeaa.Pure
open Go.RowKit Go.Proofs.Ytlgehakaedokeaa.PFairShare Go.Proofs.YtlgehakaedokeaaW.PrintWords Go.Proofs.YtlgehakaedokeaaW.PrintLast
set_option linter.unusedVariables false

theorem wrap64_id {x : Int} (h0 : -9223372036854775808 ≤ x) (h1 : x ≤ 9223372036854775807) : wrap64 x = x := by unfold wrap64; omega

theorem picked_eq (a n : Int) (h0 : 0 < n) (h1 : n ≤ 1000000000000) : packthreadkeep_Picked.f a n = some (a % n) := by
  unfold packthreadkeep_Picked.f
  rw [if_neg (by omega)]
  have hm := Int.tmod_eq_emod (a := a) (b := n)
  have hlo := Int.emod_nonneg a (show n ≠ 0 by omega)
  have hhi := Int.emod_lt_of_pos a h0
  by_cases hc : 0 ≤ a ∨ n ∣ a
  · rw [if_pos hc] at hm
    have e : a.tmod n = a % n := by rw [hm]; simp
    rw [e, if_neg (by omega)]
  · rw [if_neg hc] at hm
    have e : a.tmod n = a % n - n := by rw [hm]; congr 1; omega
    rw [e, if_pos (by omega), wrap64_id (by omega) (by omega)]
    congr 1; omega

def FlOk (x : Fl) : Prop := 1 ≤ x.qu ∧ x.qu ≤ 1500 ∧ (∀ s, s ∈ x.ws → 1 ≤ s ∧ s ≤ 1500) ∧ x.ws.length ≤ 40 ∧ 0 ≤ x.de ∧ x.de ≤ 3000 ∧ (x.fd = false → x.de ≤ 1500) ∧ (x.ws = [] → x.de = 0 ∧ x.fd = false)
structure Inv (m : Nat) (fl : List Fl) (tn : List Int) : Prop where
  ok : ∀ x, x ∈ fl → FlOk x
  len : fl.length ≤ 6
  mem : ∀ t, t ∈ tn ↔ ∃ i : Nat, t = (i : Int) ∧ i < fl.length ∧ (fl.getD i zFl).ws ≠ []
  nod : tn.Nodup
  tl : tn.length ≤ m
/-- how far a flow is from being sent of -/
def mF (x : Fl) : Nat := match x.ws with | [] => 0 | s :: _ => 2 * (s - x.de).toNat + (if x.fd = true then 1 else 0)
def MF (fl : List Fl) : Nat := (fl.map mF).sum
theorem sum_set (f : Fl → Nat) (y z : Fl) : ∀ (l : List Fl) (i : Nat), i < l.length → ((l.set i y).map f).sum + f (l.getD i z) = (l.map f).sum + f y
  | [], i, h => by simp at h
  | a :: l, 0, h => by simp; omega
  | a :: l, i + 1, h => by
    have := sum_set f y z l i (by simpa using h)
    simp only [List.set_cons_succ, List.map_cons, List.sum_cons, List.getD_cons_succ]
    omega
theorem getD_set2 (l : List Fl) (i j : Nat) (y z : Fl) (hi : i < l.length) : (l.set i y).getD j z = if j = i then y else l.getD j z := by
  rw [List.getD_eq_getElem?_getD, List.getElem?_set]
  by_cases c : j = i
  · subst c
    rw [if_pos rfl, if_pos hi, if_pos rfl]
    rfl
  · rw [if_neg (fun h => c h.symm), if_neg c, List.getD_eq_getElem?_getD]
theorem getD_mem (l : List Fl) (i : Nat) (z : Fl) (hi : i < l.length) : l.getD i z ∈ l := by
  rw [List.getD_eq_getElem?_getD, List.getElem?_eq_getElem hi]
  exact List.getElem_mem hi
theorem set_ok {fl : List Fl} {y : Fl} (h : ∀ x, x ∈ fl → FlOk x) (hy : FlOk y) (i : Nat) : ∀ x, x ∈ fl.set i y → FlOk x := fun x hx => by
  rcases List.mem_or_eq_of_mem_set hx with h1 | h1
  · exact h x h1
  · rw [h1]; exact hy
theorem MF_le {fl : List Fl} : (∀ x, x ∈ fl → FlOk x) → MF fl ≤ 3001 * fl.length := by
  induction fl with
  | nil => intro _; exact Nat.le_refl _
  | cons a l ih =>
    intro h
    have h1 := ih (fun x hx => h x (List.mem_cons_of_mem _ hx))
    have h2 := h a (List.mem_cons_self ..)
    have h3 : mF a ≤ 3001 := by
      unfold mF
      split
      · omega
      · rename_i s r hw
        have := (h2.2.2.1) s (by rw [hw]; exact List.mem_cons_self ..)
        have := h2.2.2.2.2.1
        split <;> omega
    show ((a :: l).map mF).sum ≤ _
    rw [List.map_cons, List.sum_cons, List.length_cons]
    unfold MF at h1
    omega
theorem Inv.elem {m : Nat} {fl : List Fl} {t : Int} {tr : List Int} (h : Inv m fl (t :: tr)) : ∃ (i : Nat) (s : Int) (r : List Int), t = (i : Int) ∧ i < fl.length ∧ (fl.getD i zFl).ws = s :: r ∧ FlOk (fl.getD i zFl) := by
  obtain ⟨i, h1, h2, h3⟩ := (h.mem t).1 (List.mem_cons_self ..)
  rcases hw : (fl.getD i zFl).ws with _ | ⟨s, r⟩
  · exact absurd hw h3
  · exact ⟨i, s, r, h1, h2, hw, h.ok _ (getD_mem fl i zFl h2)⟩
theorem fed_ok {x : Fl} {s : Int} {r : List Int} (h : FlOk x) (hw : x.ws = s :: r) : (fedF x).qu = x.qu ∧ (fedF x).fd = true ∧ (fedF x).de = (if x.fd = true then x.de else x.de + x.qu) ∧ 0 ≤ (fedF x).de ∧ (fedF x).de ≤ 3000 := by
  obtain ⟨h1, h2, h3, h4, h5, h6, h7, h8⟩ := h
  unfold fedF
  by_cases c : x.fd = true
  · rw [if_pos c, if_pos c]
    exact ⟨rfl, c, rfl, h5, h6⟩
  · rw [if_neg c, if_neg c]
    have h9 := h7 (by simpa using c)
    have e : wrap64 (x.de + x.qu) = x.de + x.qu := wrap64_id (by omega) (by omega)
    refine ⟨rfl, rfl, e, ?_, ?_⟩
    · show 0 ≤ wrap64 (x.de + x.qu)
      omega
    · show wrap64 (x.de + x.qu) ≤ 3000
      omega
/-- what a sending does -/
theorem sends_spec (m : Nat) : ∀ (k : Nat) (fl : List Fl) (tn : List Int), Inv m fl tn → tn ≠ [] → MF fl < k →
    ∃ (i : Nat) (s : Int) (r : List Int) (fl' : List Fl) (tn' : List Int), sendsF k fl tn = some (fl', tn', ⟨0, i, s⟩) ∧ (i : Int) ∈ tn ∧ i < fl.length ∧ (fl.getD i zFl).ws = s :: r ∧ fl'.length = fl.length ∧ (∀ j, (fl'.getD j zFl).ws = if j = i then r else (fl.getD j zFl).ws) ∧ Inv m fl' tn' := by
  intro k
  induction k with
  | zero => intro fl tn _ _ h; omega
  | succ k ih =>
    intro fl tn hI hne hM
    rcases tn with _ | ⟨t, tr⟩
    · exact absurd rfl hne
    obtain ⟨i, s, r, rfl, hi, hw, hok⟩ := hI.elem
    obtain ⟨x, hx⟩ : ∃ x, fl.getD i zFl = x := ⟨_, rfl⟩
    rw [hx] at hw hok
    obtain ⟨f1, f2, f3, f4, f5⟩ := fed_ok hok hw
    have hsr := hok.2.2.1
    have hs : 1 ≤ s ∧ s ≤ 1500 := hsr s (by rw [hw]; exact List.mem_cons_self ..)
    obtain ⟨x1, hx1⟩ : ∃ y, fedF x = y := ⟨_, rfl⟩
    have hw1 : x1.ws = s :: r := by rw [← hx1, fedF_ws]; exact hw
    rw [hx1] at f1 f2 f3 f4 f5
    rw [sendsF]
    simp only [if_pos (show (0 : Int) ≤ (i : Int) ∧ (i : Int) < fl.length by omega), Int.toNat_natCast, hx, hx1, hw1]
    have hnc := List.nodup_cons.1 hI.nod
    have hwsn : ∀ y : Fl, y.ws ≠ [] → ∀ t, (∃ j : Nat, t = (j : Int) ∧ j < fl.length ∧ (fl.getD j zFl).ws ≠ []) ↔ ∃ j : Nat, t = (j : Int) ∧ j < (fl.set i y).length ∧ ((fl.set i y).getD j zFl).ws ≠ [] := by
      intro y hy t
      constructor
      · rintro ⟨j, h1, h2, h3⟩
        refine ⟨j, h1, by rw [List.length_set]; exact h2, ?_⟩
        rw [getD_set2 _ _ _ _ _ hi]
        split
        · exact hy
        · exact h3
      · rintro ⟨j, h1, h2, h3⟩
        rw [List.length_set] at h2
        refine ⟨j, h1, h2, ?_⟩
        rw [getD_set2 _ _ _ _ _ hi] at h3
        by_cases c : j = i
        · rw [c, hx, hw]; simp
        · rw [if_neg c] at h3; exact h3
    by_cases c : s ≤ x1.de
    · rw [if_pos c]
      unfold sentF
      rw [getD_set fl i x1 zFl hi]
      simp only [hw1]
      by_cases hr : r = []
      · rw [if_pos hr]
        refine ⟨i, s, r, _, _, rfl, List.mem_cons_self .., hi, by rw [hx]; exact hw, by rw [List.length_set, List.length_set], ?_, ?_⟩
        · intro j
          rw [List.set_set, getD_set2 _ _ _ _ _ hi]
          split
          · exact hr.symm
          · rfl
        · rw [List.set_set]
          have hok2 : FlOk { x1 with ws := [], de := 0, fd := false } := ⟨by show 1 ≤ x1.qu; rw [f1]; exact hok.1, by show x1.qu ≤ 1500; rw [f1]; exact hok.2.1, fun y hy => by simp at hy, by simp, by simp, by simp, fun _ => by simp, fun _ => ⟨rfl, rfl⟩⟩
          refine ⟨set_ok hI.ok hok2 i, by rw [List.length_set]; exact hI.len, ?_, hnc.2, by have := hI.tl; rw [List.length_cons] at this; omega⟩
          intro t
          constructor
          · intro ht
            obtain ⟨j, h1, h2, h3⟩ := (hI.mem t).1 (List.mem_cons_of_mem _ ht)
            refine ⟨j, h1, by rw [List.length_set]; exact h2, ?_⟩
            rw [getD_set2 _ _ _ _ _ hi, if_neg]
            · exact h3
            · intro e
              subst e
              rw [h1] at ht
              exact hnc.1 ht
          · rintro ⟨j, h1, h2, h3⟩
            rw [List.length_set] at h2
            rw [getD_set2 _ _ _ _ _ hi] at h3
            by_cases e : j = i
            · rw [if_pos e] at h3; exact absurd rfl h3
            · rw [if_neg e] at h3
              rcases List.mem_cons.1 ((hI.mem t).2 ⟨j, h1, h2, h3⟩) with h4 | h4
              · omega
              · exact h4
      · rw [if_neg hr]
        have e : wrap64 (x1.de - s) = x1.de - s := wrap64_id (by omega) (by omega)
        rw [e]
        refine ⟨i, s, r, _, _, rfl, List.mem_cons_self .., hi, by rw [hx]; exact hw, by rw [List.length_set, List.length_set], ?_, ?_⟩
        · intro j
          rw [List.set_set, getD_set2 _ _ _ _ _ hi]
          split <;> rfl
        · rw [List.set_set]
          have hok2 : FlOk { x1 with ws := r, de := x1.de - s } := ⟨by show 1 ≤ x1.qu; rw [f1]; exact hok.1, by show x1.qu ≤ 1500; rw [f1]; exact hok.2.1, fun y hy => hsr y (by rw [hw]; exact List.mem_cons_of_mem _ hy), by have := hok.2.2.2.1; rw [hw] at this; simp at this; show r.length ≤ 40; omega, by show 0 ≤ x1.de - s; omega, by show x1.de - s ≤ 3000; omega, fun h => by rw [show x1.fd = true from f2] at h; exact absurd h (by simp), fun h => absurd h hr⟩
          exact ⟨set_ok hI.ok hok2 i, by rw [List.length_set]; exact hI.len, fun t => (hI.mem t).trans (hwsn _ hr t), hI.nod, hI.tl⟩
    · rw [if_neg c]
      have hok2 : FlOk { x1 with ws := s :: r, fd := false } := ⟨by show 1 ≤ x1.qu; rw [f1]; exact hok.1, by show x1.qu ≤ 1500; rw [f1]; exact hok.2.1, fun y hy => hsr y (by rw [hw]; exact hy), by have := hok.2.2.2.1; rw [hw] at this; exact this, f4, f5, fun _ => by show x1.de ≤ 1500; omega, fun h => by simp at h⟩
      have hmem2 : ∀ t, t ∈ tr ++ [(i : Int)] ↔ t ∈ (i : Int) :: tr := fun t => by rw [List.mem_append, List.mem_singleton, List.mem_cons]; exact ⟨fun h => h.symm, fun h => h.symm⟩
      have hI2 : Inv m (fl.set i { x1 with ws := s :: r, fd := false }) (tr ++ [(i : Int)]) := by
        refine ⟨set_ok hI.ok hok2 i, by rw [List.length_set]; exact hI.len, fun t => (hmem2 t).trans ((hI.mem t).trans (hwsn _ (by simp) t)), ?_, by have := hI.tl; rw [List.length_append]; rw [List.length_cons] at this; simpa using this⟩
        rw [List.nodup_append]
        refine ⟨hnc.2, by simp, ?_⟩
        intro a ha b hb
        rw [List.mem_singleton] at hb
        subst hb
        intro e
        subst e
        exact hnc.1 ha
      have hm1 := sum_set mF { x1 with ws := s :: r, fd := false } zFl fl i hi
      rw [hx] at hm1
      have hm2 : mF { x1 with ws := s :: r, fd := false } < mF x := by
        unfold mF
        rw [hw]
        simp only [Bool.false_eq_true, if_false]
        by_cases cf : x.fd = true
        · rw [if_pos cf] at f3 ⊢
          rw [f3]
          omega
        · rw [if_neg cf] at f3 ⊢
          rw [f3] at c ⊢
          have := hok.1
          omega
      obtain ⟨i', s', r', fl', tn', g1, g2, g3, g4, g5, g6, g7⟩ := ih _ _ hI2 (by simp) (by unfold MF at hM ⊢; omega)
      rw [List.length_set] at g3 g5
      have hgd : ∀ j, ((fl.set i { x1 with ws := s :: r, fd := false }).getD j zFl).ws = (fl.getD j zFl).ws := fun j => by
        rw [getD_set2 _ _ _ _ _ hi]
        split
        · rename_i e; rw [e, hx, hw]
        · rfl
      refine ⟨i', s', r', fl', tn', g1, (hmem2 _).1 g2, g3, by rw [← hgd]; exact g4, g5, fun j => by rw [g6 j, hgd j], g7⟩
theorem sendsO_spec {m : Nat} {fl : List Fl} {tn : List Int} (h : Inv m fl tn) (hm : m ≤ 1000) (hne : tn ≠ []) : ∃ (i : Nat) (s : Int) (r : List Int) (fl' : List Fl) (tn' : List Int), sendsO fl tn = some (fl', tn', ⟨0, i, s⟩) ∧ (i : Int) ∈ tn ∧ i < fl.length ∧ (fl.getD i zFl).ws = s :: r ∧ fl'.length = fl.length ∧ (∀ j, (fl'.getD j zFl).ws = if j = i then r else (fl.getD j zFl).ws) ∧ Inv m fl' tn' := by
  have h1 := MF_le h.ok
  have h2 := h.len
  have h3 := h.tl
  unfold sendsO
  rw [if_pos (by omega), if_neg hne]
  exact sends_spec m fairFuel fl tn h hne (by unfold fairFuel; omega)
theorem sendsO_none {m : Nat} {fl : List Fl} (_ : Inv m fl []) : sendsO fl [] = some (fl, [], ⟨7, 0, 0⟩) := by
  unfold sendsO
  rw [if_pos (by simp), if_pos rfl]
/-- what a coming does -/
theorem comesO_full {m : Nat} {fl : List Fl} {tn : List Int} (h : Inv m fl tn) (hm : m ≤ 1000) (i : Nat) (z : Int) (hi : i < fl.length) (hz : z ≤ 1500) (hf : (fl.getD i zFl).ws.length = 40) : comesO fl tn ⟨i, z⟩ = some (fl, tn, ⟨9, 0, 0⟩) := by
  have h3 := h.tl
  unfold comesO
  rw [if_pos (by omega), if_neg (by show ¬ ((i : Int) < 0 ∨ (fl.length : Int) ≤ (i : Int) ∨ 1500 < z); omega)]
  show (if (fl.getD ((i : Int)).toNat zFl).ws.length = 40 then _ else _) = _
  rw [Int.toNat_natCast, if_pos hf]
theorem comesO_spec {m : Nat} {fl : List Fl} {tn : List Int} (h : Inv m fl tn) (hm : m ≤ 1000) (i : Nat) (z : Int) (hi : i < fl.length) (h0 : 1 ≤ z) (hz : z ≤ 1500) (hf : ¬ (fl.getD i zFl).ws.length = 40) :
    ∃ fl' tn', comesO fl tn ⟨i, z⟩ = some (fl', tn', ⟨0, 0, 0⟩) ∧ fl'.length = fl.length ∧ (∀ j, (fl'.getD j zFl).ws = if j = i then (fl.getD i zFl).ws ++ [z] else (fl.getD j zFl).ws) ∧ Inv (m + 1) fl' tn' := by
  have h3 := h.tl
  have hok := h.ok _ (getD_mem fl i zFl hi)
  have hl := hok.2.2.2.1
  unfold comesO
  rw [if_pos (by omega), if_neg (by show ¬ ((i : Int) < 0 ∨ (fl.length : Int) ≤ (i : Int) ∨ 1500 < z); omega)]
  simp only [Int.toNat_natCast]
  rw [if_neg hf, if_pos (by omega)]
  obtain ⟨x, hx⟩ : ∃ x, fl.getD i zFl = x := ⟨_, rfl⟩
  rw [hx] at hok hl hf ⊢
  refine ⟨_, _, rfl, by rw [List.length_set], fun j => by rw [getD_set2 _ _ _ _ _ hi]; split <;> rfl, ?_⟩
  have hok2 : FlOk { x with ws := x.ws ++ [z] } := by
    obtain ⟨a1, a2, a3, a4, a5, a6, a7, a8⟩ := hok
    refine ⟨a1, a2, fun s hs => ?_, by show (x.ws ++ [z]).length ≤ 40; rw [List.length_append]; simp; omega, a5, a6, a7, fun e => by simp at e⟩
    rcases List.mem_append.1 hs with hs | hs
    · exact a3 s hs
    · rw [List.mem_singleton] at hs; rw [hs]; exact ⟨h0, hz⟩
  have hmem : ∀ t, (∃ j : Nat, t = (j : Int) ∧ j < (fl.set i { x with ws := x.ws ++ [z] }).length ∧ ((fl.set i { x with ws := x.ws ++ [z] }).getD j zFl).ws ≠ []) ↔ t = (i : Int) ∨ ∃ j : Nat, t = (j : Int) ∧ j < fl.length ∧ (fl.getD j zFl).ws ≠ [] := by
    intro t
    constructor
    · rintro ⟨j, g1, g2, g3⟩
      rw [List.length_set] at g2
      rw [getD_set2 _ _ _ _ _ hi] at g3
      by_cases c : j = i
      · left; omega
      · rw [if_neg c] at g3; exact .inr ⟨j, g1, g2, g3⟩
    · rintro (g | ⟨j, g1, g2, g3⟩)
      · refine ⟨i, g, by rw [List.length_set]; exact hi, ?_⟩
        rw [getD_set2 _ _ _ _ _ hi, if_pos rfl]
        simp
      · refine ⟨j, g1, by rw [List.length_set]; exact g2, ?_⟩
        rw [getD_set2 _ _ _ _ _ hi]
        split
        · simp
        · exact g3
  by_cases c : x.ws.length = 0
  · rw [if_pos c]
    have hni : (i : Int) ∉ tn := fun hm => by
      obtain ⟨j, g1, g2, g3⟩ := (h.mem _).1 hm
      have : j = i := by omega
      rw [this, hx] at g3
      exact g3 (List.eq_nil_of_length_eq_zero c)
    refine ⟨set_ok h.ok hok2 i, by rw [List.length_set]; exact h.len, fun t => ?_, ?_, by rw [List.length_append]; simp; omega⟩
    · rw [hmem t, ← h.mem t, List.mem_append, List.mem_singleton]
      exact ⟨fun g => g.symm, fun g => g.symm⟩
    · rw [List.nodup_append]
      refine ⟨h.nod, by simp, ?_⟩
      intro a ha b hb
      rw [List.mem_singleton] at hb
      subst hb
      intro e
      subst e
      exact hni ha
  · rw [if_neg c]
    refine ⟨set_ok h.ok hok2 i, by rw [List.length_set]; exact h.len, fun t => ?_, h.nod, by omega⟩
    rw [hmem t, ← h.mem t]
    constructor
    · exact fun g => .inr g
    · rintro (g | g)
      · exact (h.mem t).2 ⟨i, g, hi, by rw [hx]; intro e; rw [e] at c; exact c rfl⟩
      · exact g
theorem Inv.start (qs : List Int) (h6 : qs.length ≤ 6) (hg : ∀ n, n ∈ qs → 1 ≤ n ∧ n ≤ 1500) : Inv 0 (qs.map fun n => ⟨n, [], 0, false⟩) [] := by
  refine ⟨fun x hx => ?_, by rw [List.length_map]; exact h6, fun t => ?_, List.nodup_nil, Nat.le_refl _⟩
  · obtain ⟨n, hn, rfl⟩ := List.mem_map.1 hx
    have := hg n hn
    exact ⟨this.1, this.2, fun s hs => by simp at hs, by simp, by simp, by simp, fun _ => by simp, fun _ => ⟨rfl, rfl⟩⟩
  · constructor
    · intro h; simp at h
    · rintro ⟨j, g1, g2, g3⟩
      exfalso
      apply g3
      rw [List.length_map] at g2
      rw [List.getD_eq_getElem?_getD, List.getElem?_map, List.getElem?_eq_getElem g2]
      rfl
theorem Inv.more {m n : Nat} {fl : List Fl} {tn : List Int} (h : Inv m fl tn) (hn : m ≤ n) : Inv n fl tn := ⟨h.ok, h.len, h.mem, h.nod, by have := h.tl; omega⟩

theorem quanta_l0 (l : List Int) : ∀ (m i k : Nat) (x : List Int), i + m = 3 → m < k → x.length = 3 → (∀ n, n ∈ x → 1 ≤ n ∧ n ≤ 200) → ∃ q, packthreadkeep_Quanta.l0 k l x (i : Int) = some q ∧ q.length = 3 ∧ ∀ n, n ∈ q → 1 ≤ n ∧ n ≤ 200 := by
  intro m
  induction m with
  | zero =>
    intro i k x h1 h2 h3 h4
    obtain ⟨k, rfl⟩ : ∃ q, k = q + 1 := ⟨k - 1, by omega⟩
    exact ⟨x, by rw [packthreadkeep_Quanta.l0, if_neg (by omega)], h3, h4⟩
  | succ m ih =>
    intro i k x h1 h2 h3 h4
    obtain ⟨k, rfl⟩ : ∃ q, k = q + 1 := ⟨k - 1, by omega⟩
    rw [packthreadkeep_Quanta.l0, if_pos (by omega)]
    by_cases c : (i : Int) < (l.length : Int)
    · have hp0 := Int.emod_nonneg (rd l (i : Int)) (show (200 : Int) ≠ 0 by omega)
      have hp1 := Int.emod_lt_of_pos (rd l (i : Int)) (show (0 : Int) < 200 by omega)
      rw [if_pos c, if_pos (by omega), picked_eq _ _ (by decide) (by decide), Option.bind_some, if_pos (by omega), wrap64_id (x := (i : Int) + 1) (by omega) (by omega), wrap64_id (x := 1 + rd l (i : Int) % 200) (by omega) (by omega)]
      refine ih (i + 1) k _ (by omega) (by omega) (by rw [List.length_set]; exact h3) ?_
      intro n hn
      rcases List.mem_or_eq_of_mem_set hn with h | h
      · exact h4 n h
      · omega
    · rw [if_neg c]
      exact ⟨x, rfl, h3, h4⟩
theorem quanta_eq (k : Nat) (l : List Int) (hk : 10 ≤ k) : ∃ q, packthreadkeep_Quanta.f k l = some q ∧ q.length = 3 ∧ ∀ n, n ∈ q → 1 ≤ n ∧ n ≤ 200 := by
  unfold packthreadkeep_Quanta.f
  refine quanta_l0 l 3 0 k _ (by omega) (by omega) rfl ?_
  intro n hn
  simp at hn
  omega
theorem play_len : ∀ (l : List S50) (fl : List Fl) (tn : List Int) (out res : List S52), playF l fl tn out = some res → res.length = out.length + l.length
  | [], fl, tn, out, res, h => by
    rw [playF] at h
    injection h with h
    subst h
    rfl
  | a :: l, fl, tn, out, res, h => by
    rw [playF] at h
    by_cases c : 0 < a.f1
    · rw [if_pos c] at h
      rcases hc : comesO fl tn a with _ | r
      · rw [hc] at h; exact absurd h (by simp)
      · rw [hc] at h
        have := play_len l _ _ _ _ h
        rw [this, List.length_append, List.length_cons, List.length_cons, List.length_nil]
        omega
    · rw [if_neg c] at h
      by_cases d : a.f1 < 0
      · rw [if_pos d] at h
        have := play_len l _ _ _ _ h
        rw [this, List.length_append, List.length_cons, List.length_cons, List.length_nil]
        omega
      · rw [if_neg d] at h
        rcases hc : sendsO fl tn with _ | r
        · rw [hc] at h; exact absurd h (by simp)
        · rw [hc] at h
          have := play_len l _ _ _ _ h
          rw [this, List.length_append, List.length_cons, List.length_cons, List.length_nil]
          omega
theorem one_eq : fair_Play.f [3] [(⟨0, 7⟩ : S50), (⟨0, 0⟩ : S50)] = some ([⟨0, 0, 0⟩, ⟨0, 0, 7⟩], 0) := by
  have h0 := Inv.start [3] (by simp) (by intro n hn; simp at hn; omega)
  obtain ⟨fl1, tn1, g1, g2, g3, g4⟩ := comesO_spec h0 (by omega) 0 7 (by simp) (by omega) (by omega) (by simp)
  have hw0 : (fl1.getD 0 zFl).ws = [7] := by rw [g3 0, if_pos rfl]; rfl
  have hl1 : fl1.length = 1 := by rw [g2]; rfl
  have hne : tn1 ≠ [] := by
    have := (g4.mem (0 : Int)).2 ⟨0, rfl, by omega, by rw [hw0]; simp⟩
    intro e
    rw [e] at this
    simp at this
  obtain ⟨i, s, r, fl2, tn2, k1, k2, k3, k4, _⟩ := sendsO_spec g4 (by omega) hne
  obtain rfl : i = 0 := by omega
  rw [hw0] at k4
  injection k4 with k4 _
  subst k4
  unfold fair_Play.f
  rw [if_pos ⟨by simp, by simp, by simp, by intro n hn; simp at hn; omega⟩]
  have : playF [(⟨0, 7⟩ : S50), (⟨0, 0⟩ : S50)] ([3].map fun n => (⟨n, [], 0, false⟩ : Fl)) [] [] = some [⟨0, 0, 0⟩, ⟨0, 0, 7⟩] := by
    rw [playF, if_pos (by decide)]
    rw [show comesO ([3].map fun n => (⟨n, [], 0, false⟩ : Fl)) [] ⟨0, 7⟩ = _ from g1]
    show playF [⟨0, 0⟩] fl1 tn1 _ = _
    rw [playF, if_neg (by decide), if_neg (by decide), k1]
    rfl
  rw [this]
theorem lined_eq (q : List Int) (l : List S50) (res : List S52) (hq : q.length = 3) (hg : ∀ n, n ∈ q → 1 ≤ n ∧ n ≤ 1500) (hl : l.length ≤ 300) (h : playF l (q.map fun n => ⟨n, [], 0, false⟩) [] [] = some res) : packthreadkeep_lined.f q l = some (res, true) := by
  have hlen := play_len l _ _ _ _ h
  unfold packthreadkeep_lined.f
  rw [if_pos (by rw [List.length_nil]; omega), if_pos (by rw [List.length_nil]; omega), List.nil_append, List.nil_append]
  have hp : fair_Play.f q l = some (res, 0) := by
    unfold fair_Play.f
    rw [if_pos ⟨by omega, by omega, hl, hg⟩, h]
  rw [hp, Option.bind_some, one_eq, Option.bind_some, if_pos rfl]
  show (if ((res.length : Nat) : Int) = (l.length : Int) then _ else _) = _
  rw [if_pos (by rw [hlen]; simp), if_pos rfl]
  rfl

structure DRR (M : Int) (q : List Int) (fl : List Fl) (tn : List Int) (v snt : Nat → Int) : Prop where
  len : fl.length = 3
  qs : ∀ i : Nat, i < 3 → 1 ≤ rd q (i : Int) ∧ rd q (i : Int) ≤ 200
  ms : 1 ≤ M ∧ M ≤ 150
  turn : ∃ a b c : Nat, tn = [(a : Int), (b : Int), (c : Int)] ∧ a < 3 ∧ b < 3 ∧ c < 3 ∧ a ≠ b ∧ b ≠ c ∧ a ≠ c ∧ (fl.getD b zFl).fd = false ∧ (fl.getD c zFl).fd = false ∧
    ((fl.getD a zFl).fd = false → v a ≤ v b ∧ v b ≤ v c ∧ v c ≤ v a + 1) ∧ ((fl.getD a zFl).fd = true → v b ≤ v c ∧ v c ≤ v a ∧ v a ≤ v b + 1)
  de : ∀ i, i < 3 → (fl.getD i zFl).de = v i * rd q (i : Int) - snt i
  lo : ∀ i, i < 3 → 0 ≤ (fl.getD i zFl).de
  hi : ∀ i : Nat, i < 3 → ((fl.getD i zFl).fd = false → (fl.getD i zFl).de < M) ∧ (fl.getD i zFl).de < M + rd q (i : Int)
  qu : ∀ i : Nat, i < 3 → (fl.getD i zFl).qu = rd q (i : Int)
  ws : ∀ i, i < 3 → (fl.getD i zFl).ws ≠ [] ∧ ∀ s, s ∈ (fl.getD i zFl).ws → 1 ≤ s ∧ s ≤ M
theorem DRR.vs {M : Int} {q : List Int} {fl : List Fl} {tn : List Int} {v snt : Nat → Int} (h : DRR M q fl tn v snt) (i j : Nat) (hi : i < 3) (hj : j < 3) : v i - v j ≤ 1 ∧ ((fl.getD j zFl).fd = true → v i ≤ v j) := by
  obtain ⟨a, b, c, _, ha, hb, hc, h1, h2, h3, fb, fc, hF, hT⟩ := h.turn
  have ei : i = a ∨ i = b ∨ i = c := by omega
  have ej : j = a ∨ j = b ∨ j = c := by omega
  cases hfa : (fl.getD a zFl).fd with
  | false =>
    have := hF hfa
    constructor
    · rcases ei with rfl | rfl | rfl <;> rcases ej with rfl | rfl | rfl <;> omega
    · intro h
      rcases ej with rfl | rfl | rfl
      · rw [hfa] at h; exact absurd h (by simp)
      · rw [fb] at h; exact absurd h (by simp)
      · rw [fc] at h; exact absurd h (by simp)
  | true =>
    have := hT hfa
    constructor
    · rcases ei with rfl | rfl | rfl <;> rcases ej with rfl | rfl | rfl <;> omega
    · intro h
      rcases ej with rfl | rfl | rfl
      · rcases ei with rfl | rfl | rfl <;> omega
      · rw [fb] at h; exact absurd h (by simp)
      · rw [fc] at h; exact absurd h (by simp)
/-- neither gets much more than the other -/
theorem DRR.fair {M : Int} {q : List Int} {fl : List Fl} {tn : List Int} {v snt : Nat → Int} (h : DRR M q fl tn v snt) (a b : Nat) (ha : a < 3) (hb : b < 3) : snt a * rd q (b : Int) - snt b * rd q (a : Int) ≤ rd q (a : Int) * rd q (b : Int) + M * rd q (b : Int) + M * rd q (a : Int) := by
  obtain ⟨v1, v2⟩ := h.vs a b ha hb
  have da := h.de a ha
  have db := h.de b hb
  have la := h.lo a ha
  have lb := h.lo b hb
  have hb' := h.hi b hb
  have qa := h.qs a ha
  have qb := h.qs b hb
  have hm := h.ms
  obtain ⟨x, hx⟩ : ∃ x, rd q (a : Int) = x := ⟨_, rfl⟩
  obtain ⟨y, hy⟩ : ∃ y, rd q (b : Int) = y := ⟨_, rfl⟩
  obtain ⟨p, hp⟩ : ∃ p, (fl.getD a zFl).de = p := ⟨_, rfl⟩
  obtain ⟨r, hr⟩ : ∃ r, (fl.getD b zFl).de = r := ⟨_, rfl⟩
  rw [hx] at qa da ⊢
  rw [hy] at qb db hb' ⊢
  rw [hp] at da la
  rw [hr] at db lb hb'
  have sa : snt a = v a * x - p := by omega
  have sb : snt b = v b * y - r := by omega
  rw [sa, sb, Int.sub_mul, Int.sub_mul]
  have e1 : v b * y * x = v b * (x * y) := by rw [Int.mul_assoc, Int.mul_comm y x]
  have e2 : v a * x * y = v a * (x * y) := Int.mul_assoc _ _ _
  have e3 : (v a - v b) * (x * y) = v a * (x * y) - v b * (x * y) := Int.sub_mul _ _ _
  have hxy : 0 ≤ x * y := Int.mul_nonneg (by omega) (by omega)
  have hpy : 0 ≤ p * y := Int.mul_nonneg la (by omega)
  have hMy : 0 ≤ M * y := Int.mul_nonneg (by omega) (by omega)
  rw [e1, e2]
  cases hfd : (fl.getD b zFl).fd with
  | false =>
    have h1 : (v a - v b) * (x * y) ≤ 1 * (x * y) := Int.mul_le_mul_of_nonneg_right v1 hxy
    have h2 : r * x ≤ M * x := Int.mul_le_mul_of_nonneg_right (by have := hb'.1 hfd; omega) (by omega)
    omega
  | true =>
    have h1 : (v a - v b) * (x * y) ≤ 0 * (x * y) := Int.mul_le_mul_of_nonneg_right (by have := v2 hfd; omega) hxy
    have h2 : r * x ≤ (M + y) * x := Int.mul_le_mul_of_nonneg_right (by have := hb'.2; omega) (by omega)
    have h3 : (M + y) * x = M * x + y * x := Int.add_mul _ _ _
    have h4 : y * x = x * y := Int.mul_comm _ _
    omega
theorem drr_send (M : Int) (q : List Int) : ∀ (k : Nat) (fl : List Fl) (tn : List Int) (v snt : Nat → Int) (fl' : List Fl) (tn' : List Int) (o : S52), DRR M q fl tn v snt → sendsF k fl tn = some (fl', tn', o) →
    ∃ (i : Nat) (s : Int) (r : List Int), i < 3 ∧ o = ⟨0, i, s⟩ ∧ (fl.getD i zFl).ws = s :: r ∧ (∀ j, (fl'.getD j zFl).ws = if j = i then r else (fl.getD j zFl).ws) ∧ (r ≠ [] → ∃ v', DRR M q fl' tn' v' (fun j => if j = i then snt j + s else snt j)) := by
  intro k
  induction k with
  | zero => intro fl tn v snt fl' tn' o _ h; exact absurd h (by simp [sendsF])
  | succ k ih =>
    intro fl tn v snt fl' tn' o hD h
    obtain ⟨a, b, c, rfl, ha, hb, hc, h1, h2, h3, fb, fc, hF, hT⟩ := hD.turn
    have hl := hD.len
    have hqs := hD.qs a ha
    have hms := hD.ms
    have hde := hD.de a ha
    have hlo := hD.lo a ha
    have hhi := hD.hi a ha
    have hqu := hD.qu a ha
    have hws := hD.ws a ha
    rw [sendsF] at h
    simp only [if_pos (show (0 : Int) ≤ (a : Int) ∧ (a : Int) < fl.length by omega), Int.toNat_natCast] at h
    obtain ⟨x, hx⟩ : ∃ x, fl.getD a zFl = x := ⟨_, rfl⟩
    rw [hx] at h hde hlo hhi hqu hws hF hT
    rcases hw : x.ws with _ | ⟨s, r⟩
    · exact absurd hw hws.1
    have hs := hws.2 s (by rw [hw]; exact List.mem_cons_self ..)
    obtain ⟨Q, hQ⟩ : ∃ Q, rd q (a : Int) = Q := ⟨_, rfl⟩
    rw [hQ] at hqs hde hhi hqu
    -- what it is owed now
    obtain ⟨x1, hx1⟩ : ∃ y, fedF x = y := ⟨_, rfl⟩
    have hv : ∃ va : Int, x1.qu = Q ∧ x1.fd = true ∧ x1.ws = s :: r ∧ x1.de = va * Q - snt a ∧ 0 ≤ x1.de ∧ x1.de < M + Q ∧ v b ≤ v c ∧ v c ≤ va ∧ va ≤ v b + 1 := by
      rw [← hx1]
      unfold fedF
      by_cases cf : x.fd = true
      · rw [if_pos cf]
        obtain ⟨g1, g2, g3⟩ := hT cf
        exact ⟨v a, hqu, cf, hw, hde, hlo, hhi.2, g1, g2, g3⟩
      · rw [if_neg cf]
        have cf' : x.fd = false := by simpa using cf
        obtain ⟨g1, g2, g3⟩ := hF cf'
        have g4 := hhi.1 cf'
        have e : wrap64 (x.de + x.qu) = x.de + x.qu := wrap64_id (by omega) (by omega)
        have e2 : (v a + 1) * Q = v a * Q + Q := by rw [Int.add_mul, Int.one_mul]
        refine ⟨v a + 1, hqu, rfl, hw, ?_, ?_, ?_, g2, g3, by omega⟩
        · show wrap64 (x.de + x.qu) = _
          omega
        · show 0 ≤ wrap64 (x.de + x.qu)
          omega
        · show wrap64 (x.de + x.qu) < _
          omega
    obtain ⟨va, k1, k2, k3, k4, k5, k6, k7, k8, k9⟩ := hv
    rw [hx1] at h
    simp only [k3] at h
    have ea : a < fl.length := by omega
    -- the state, where the front one stands as x2
    have hstate : ∀ (x2 : Fl) (tn2 : List Int) (snt2 : Nat → Int), x2.qu = Q → x2.ws ≠ [] → (∀ y, y ∈ x2.ws → 1 ≤ y ∧ y ≤ M) → x2.de = va * Q - snt2 a → 0 ≤ x2.de → (x2.fd = false → x2.de < M) → x2.de < M + Q → (∀ j, j ≠ a → snt2 j = snt j) → ((tn2 = [(a : Int), b, c] ∧ x2.fd = true) ∨ (tn2 = [(b : Int), c, a] ∧ x2.fd = false)) → DRR M q (fl.set a x2) tn2 (fun j => if j = a then va else v j) snt2 := by
      intro x2 tn2 snt2 g1 g2 g3 g4 g5 g6 g7 g8 g9
      have hg : ∀ j, (fl.set a x2).getD j zFl = if j = a then x2 else fl.getD j zFl := fun j => getD_set2 fl a j x2 zFl ea
      have hba : b ≠ a := fun e => h1 e.symm
      have hca : c ≠ a := fun e => h3 e.symm
      refine ⟨by rw [List.length_set]; exact hl, hD.qs, hms, ?_, fun i hi => ?_, fun i hi => ?_, fun i hi => ?_, fun i hi => ?_, fun i hi => ?_⟩
      · rcases g9 with ⟨rfl, gf⟩ | ⟨rfl, gf⟩
        · refine ⟨a, b, c, rfl, ha, hb, hc, h1, h2, h3, by rw [hg, if_neg hba]; exact fb, by rw [hg, if_neg hca]; exact fc, fun g => ?_, fun _ => ?_⟩
          · rw [hg, if_pos rfl, gf] at g; exact absurd g (by simp)
          · simp only [if_neg hba, if_neg hca, if_true]
            exact ⟨k7, k8, k9⟩
        · refine ⟨b, c, a, rfl, hb, hc, ha, h2, fun e => h3 e.symm, fun e => h1 e.symm, by rw [hg, if_neg hca]; exact fc, by rw [hg, if_pos rfl]; exact gf, fun _ => ?_, fun g => ?_⟩
          · simp only [if_neg hba, if_neg hca, if_true]
            exact ⟨k7, k8, k9⟩
          · rw [hg, if_neg hba, fb] at g; exact absurd g (by simp)
      all_goals
        rw [hg]
        by_cases e : i = a
        · subst e
          simp only [if_true]
          first
            | (rw [hQ]; exact g4)
            | exact g5
            | (rw [hQ]; exact ⟨g6, g7⟩)
            | (rw [hQ]; exact g1)
            | exact ⟨g2, g3⟩
        · simp only [if_neg e]
          first
            | (rw [g8 i e]; exact hD.de i hi)
            | exact hD.lo i hi
            | exact hD.hi i hi
            | exact hD.qu i hi
            | exact hD.ws i hi
    by_cases cs : s ≤ x1.de
    · rw [if_pos cs] at h
      unfold sentF at h
      rw [getD_set fl a x1 zFl ea] at h
      simp only [k3] at h
      by_cases hr : r = []
      · rw [if_pos hr] at h
        simp only [Option.some.injEq, Prod.mk.injEq] at h
        obtain ⟨rfl, rfl, rfl⟩ := h
        refine ⟨a, s, r, ha, rfl, by rw [hx]; exact hw, fun j => ?_, fun g => absurd hr g⟩
        rw [List.set_set, getD_set2 _ _ _ _ _ ea]
        split
        · exact hr.symm
        · rfl
      · rw [if_neg hr] at h
        simp only [Option.some.injEq, Prod.mk.injEq] at h
        obtain ⟨rfl, rfl, rfl⟩ := h
        have e : wrap64 (x1.de - s) = x1.de - s := wrap64_id (by omega) (by omega)
        refine ⟨a, s, r, ha, rfl, by rw [hx]; exact hw, fun j => ?_, fun _ => ⟨fun j => if j = a then va else v j, ?_⟩⟩
        · rw [List.set_set, getD_set2 _ _ _ _ _ ea]
          split <;> rfl
        · rw [List.set_set, e]
          refine hstate { x1 with ws := r, de := x1.de - s } _ _ k1 hr (fun y hy => hws.2 y (by rw [hw]; exact List.mem_cons_of_mem _ hy)) ?_ ?_ (fun g => ?_) ?_ (fun j hj => if_neg hj) (.inl ⟨rfl, k2⟩)
          · show x1.de - s = va * Q - (if a = a then snt a + s else snt a)
            rw [if_pos rfl]
            omega
          · show 0 ≤ x1.de - s
            omega
          · rw [show x1.fd = true from k2] at g
            exact absurd g (by simp)
          · show x1.de - s < M + Q
            omega
    · rw [if_neg cs] at h
      have hD2 := hstate { x1 with ws := s :: r, fd := false } [(b : Int), c, a] snt k1 (by simp) (fun y hy => hws.2 y (by rw [hw]; exact hy)) k4 k5 (fun _ => by show x1.de < M; omega) k6 (fun _ _ => rfl) (.inr ⟨rfl, rfl⟩)
      obtain ⟨i, s', r', p1, p2, p3, p4, p5⟩ := ih _ _ _ _ _ _ _ hD2 h
      have hgd : ∀ j, ((fl.set a { x1 with ws := s :: r, fd := false }).getD j zFl).ws = (fl.getD j zFl).ws := fun j => by
        rw [getD_set2 _ _ _ _ _ ea]
        split
        · rename_i e; rw [e, hx, hw]
        · rfl
      exact ⟨i, s', r', p1, p2, by rw [← hgd]; exact p3, fun j => by rw [p4 j, hgd j], p5⟩
theorem DRR.congr {M : Int} {q : List Int} {fl : List Fl} {tn : List Int} {v s1 s2 : Nat → Int} (h : DRR M q fl tn v s1) (e : ∀ i, i < 3 → s2 i = s1 i) : DRR M q fl tn v s2 :=
  ⟨h.len, h.qs, h.ms, h.turn, fun i hi => by rw [e i hi]; exact h.de i hi, h.lo, h.hi, h.qu, h.ws⟩
theorem sends_total : ∀ (n m : Nat) (fl : List Fl) (tn : List Int) (out : List S52), Inv m fl tn → m ≤ 1000 → ∃ rs : List S52, rs.length = n ∧ playF (List.replicate n (⟨0, 0⟩ : S50)) fl tn out = some (out ++ rs)
  | 0, m, fl, tn, out, _, _ => ⟨[], rfl, by rw [List.replicate_zero, playF, List.append_nil]⟩
  | n + 1, m, fl, tn, out, h, hm => by
    rw [List.replicate_succ, playF, if_neg (by decide), if_neg (by decide)]
    by_cases c : tn = []
    · subst c
      rw [sendsO_none h]
      obtain ⟨rs, h1, h2⟩ := sends_total n m fl [] (out ++ [⟨7, 0, 0⟩]) h hm
      refine ⟨⟨7, 0, 0⟩ :: rs, by rw [List.length_cons, h1], ?_⟩
      show playF _ fl [] (out ++ [⟨7, 0, 0⟩]) = _
      rw [h2, List.append_assoc]
      rfl
    · obtain ⟨i, s, r, fl', tn', g1, g2, g3, g4, g5, g6, g7⟩ := sendsO_spec h hm c
      rw [g1]
      obtain ⟨rs, h1, h2⟩ := sends_total n m fl' tn' (out ++ [⟨0, i, s⟩]) g7 hm
      refine ⟨⟨0, i, s⟩ :: rs, by rw [List.length_cons, h1], ?_⟩
      show playF _ fl' tn' (out ++ [⟨0, i, s⟩]) = _
      rw [h2, List.append_assoc]
      rfl
theorem share_l5 (q : List Int) (M : Int) (sn : List Int) (hq : q.length = 3) (hs : sn.length = 3) (hm : 1 ≤ M ∧ M ≤ 150) (hqb : ∀ i : Nat, i < 3 → 1 ≤ rd q (i : Int) ∧ rd q (i : Int) ≤ 200) (hsb : ∀ i : Nat, i < 3 → 0 ≤ rd sn (i : Int) ∧ rd sn (i : Int) ≤ 6000)
    (hf : ∀ a b : Nat, a < 3 → b < 3 → rd sn (a : Int) * rd q (b : Int) - rd sn (b : Int) * rd q (a : Int) ≤ rd q (a : Int) * rd q (b : Int) + M * rd q (b : Int) + M * rd q (a : Int)) (a : Nat) (ha : a < 3) : ∀ (m b k : Nat), b + m = 3 → packthreadkeep_FairShare.l5 (k + m + 1) q M sn (a : Int) (b : Int) = packthreadkeep_FairShare.l4 k q M sn ((a + 1 : Nat) : Int) := by
  intro m
  induction m with
  | zero =>
    intro b k h1
    rw [packthreadkeep_FairShare.l5, if_neg (by omega), wrap64_id (x := (a : Int) + 1) (by omega) (by omega)]
    congr 1
  | succ m ih =>
    intro b k h1
    have hb : b < 3 := by omega
    have b1 := hqb a ha
    have b2 := hqb b hb
    have b3 := hsb a ha
    have b4 := hsb b hb
    have b5 := hf a b ha hb
    obtain ⟨x, hx⟩ : ∃ x, rd q (a : Int) = x := ⟨_, rfl⟩
    obtain ⟨y, hy⟩ : ∃ x, rd q (b : Int) = x := ⟨_, rfl⟩
    obtain ⟨s, hs'⟩ : ∃ x, rd sn (a : Int) = x := ⟨_, rfl⟩
    obtain ⟨r, hr⟩ : ∃ x, rd sn (b : Int) = x := ⟨_, rfl⟩
    rw [hx] at b1 b5
    rw [hy] at b2 b5
    rw [hs'] at b3 b5
    rw [hr] at b4 b5
    have p1 : 0 ≤ s * y := Int.mul_nonneg (by omega) (by omega)
    have p2 : s * y ≤ 6000 * 200 := Int.mul_le_mul b3.2 b2.2 (by omega) (by omega)
    have p3 : 0 ≤ r * x := Int.mul_nonneg (by omega) (by omega)
    have p4 : r * x ≤ 6000 * 200 := Int.mul_le_mul b4.2 b1.2 (by omega) (by omega)
    have p5 : 0 ≤ x * y := Int.mul_nonneg (by omega) (by omega)
    have p6 : x * y ≤ 200 * 200 := Int.mul_le_mul b1.2 b2.2 (by omega) (by omega)
    have p7 : 0 ≤ M * y := Int.mul_nonneg (by omega) (by omega)
    have p8 : M * y ≤ 150 * 200 := Int.mul_le_mul hm.2 b2.2 (by omega) (by omega)
    have p9 : 0 ≤ M * x := Int.mul_nonneg (by omega) (by omega)
    have p10 : M * x ≤ 150 * 200 := Int.mul_le_mul hm.2 b1.2 (by omega) (by omega)
    rw [show k + (m + 1) + 1 = (k + m + 1) + 1 by omega, packthreadkeep_FairShare.l5, if_pos (by omega), if_pos (by omega), if_pos (by omega), if_pos (by omega), if_pos (by omega), if_pos (by omega), if_pos (by omega), hx, hy, hs', hr, wrap64_id (x := s * y) (by omega) (by omega), wrap64_id (x := r * x) (by omega) (by omega), wrap64_id (x := s * y - r * x) (by omega) (by omega), wrap64_id (x := x * y) (by omega) (by omega), wrap64_id (x := M * y) (by omega) (by omega), wrap64_id (x := M * x) (by omega) (by omega), wrap64_id (x := x * y + M * y) (by omega) (by omega), wrap64_id (x := x * y + M * y + M * x) (by omega) (by omega), if_neg (by omega), wrap64_id (x := (b : Int) + 1) (by omega) (by omega), show (b : Int) + 1 = ((b + 1 : Nat) : Int) by omega]
    exact ih (b + 1) k (by omega)
theorem share_l4 (q : List Int) (M : Int) (sn : List Int) (hq : q.length = 3) (hs : sn.length = 3) (hm : 1 ≤ M ∧ M ≤ 150) (hqb : ∀ i : Nat, i < 3 → 1 ≤ rd q (i : Int) ∧ rd q (i : Int) ≤ 200) (hsb : ∀ i : Nat, i < 3 → 0 ≤ rd sn (i : Int) ∧ rd sn (i : Int) ≤ 6000)
    (hf : ∀ a b : Nat, a < 3 → b < 3 → rd sn (a : Int) * rd q (b : Int) - rd sn (b : Int) * rd q (a : Int) ≤ rd q (a : Int) * rd q (b : Int) + M * rd q (b : Int) + M * rd q (a : Int)) : ∀ (m a k : Nat), a + m = 3 → 5 * m + 1 ≤ k → packthreadkeep_FairShare.l4 k q M sn (a : Int) = some true := by
  intro m
  induction m with
  | zero =>
    intro a k h1 h2
    obtain ⟨k, rfl⟩ : ∃ q, k = q + 1 := ⟨k - 1, by omega⟩
    rw [packthreadkeep_FairShare.l4, if_neg (by omega)]
  | succ m ih =>
    intro a k h1 h2
    obtain ⟨k, rfl⟩ : ∃ q, k = q + 3 + 1 + 1 := ⟨k - 5, by omega⟩
    rw [packthreadkeep_FairShare.l4, if_pos (by omega)]
    refine (share_l5 q M sn hq hs hm hqb hsb hf a (by omega) 3 0 k (by omega)).trans ?_
    exact ih (a + 1) k (by omega) (by omega)
theorem rd_set (l : List Int) (i j : Nat) (x : Int) (hi : i < l.length) : rd (l.set i x) (j : Int) = if j = i then x else rd l (j : Int) := by
  unfold rd
  rw [Int.toNat_natCast, List.getD_eq_getElem?_getD, List.getD_eq_getElem?_getD, List.getElem?_set]
  by_cases c : j = i
  · subst c
    rw [if_pos rfl, if_pos hi, if_pos rfl]
    rfl
  · rw [if_neg (fun h => c h.symm), if_neg c]
theorem share_sends (q : List Int) (M : Int) (hq : q.length = 3) : ∀ (n : Nat) (fl : List Fl) (tn : List Int) (out : List S52) (v : Nat → Int) (sn cn : List Int), Inv 300 fl tn → DRR M q fl tn v (fun i => rd sn (i : Int)) → sn.length = 3 → cn.length = 3 → (∀ i : Nat, i < 3 → rd cn (i : Int) = 39 - ((fl.getD i zFl).ws.length : Int) ∧ 0 ≤ rd cn (i : Int) ∧ 0 ≤ rd sn (i : Int) ∧ rd sn (i : Int) ≤ 150 * rd cn (i : Int)) →
    ∃ rs : List S52, rs.length = n ∧ playF (List.replicate n (⟨0, 0⟩ : S50)) fl tn out = some (out ++ rs) ∧ ∀ (x15 : List S52) (j k : Nat), x15.drop j = rs → x15.length = j + n → x15.length ≤ 1000 → 2 * n + 30 ≤ k → packthreadkeep_FairShare.l3 k q M x15 sn cn (j : Int) = some true := by
  intro n
  induction n with
  | zero =>
    intro fl tn out v sn cn hI hD hs hc hb
    refine ⟨[], rfl, by rw [List.replicate_zero, playF, List.append_nil], ?_⟩
    intro x15 j k h1 h2 h3 h4
    obtain ⟨k, rfl⟩ : ∃ q, k = q + 1 := ⟨k - 1, by omega⟩
    rw [packthreadkeep_FairShare.l3, if_neg (by omega)]
    refine share_l4 q M sn hq hs hD.ms hD.qs (fun i hi => ?_) (fun a b ha hb => hD.fair a b ha hb) 3 0 k (by omega) (by omega)
    have := hb i hi
    omega
  | succ n ih =>
    intro fl tn out v sn cn hI hD hs hc hb
    have hne : tn ≠ [] := by
      obtain ⟨a, b, c, e, _⟩ := hD.turn
      rw [e]
      simp
    obtain ⟨i, s, r, fl', tn', g1, g2, g3, g4, g5, g6, g7⟩ := sendsO_spec hI (by omega) hne
    have hF : sendsF fairFuel fl tn = some (fl', tn', ⟨0, i, s⟩) := by
      have h3 := hI.tl
      have g := g1
      unfold sendsO at g
      rwa [if_pos (by omega), if_neg hne] at g
    obtain ⟨i', s', r', p1, p2, p3, p4, p5⟩ := drr_send M q _ _ _ _ _ _ _ _ hD hF
    have hii : i' = i ∧ s' = s := by
      injection p2 with _ e1 e2
      constructor
      · omega
      · exact e2.symm
    obtain ⟨rfl, rfl⟩ := hii
    rw [g4] at p3
    injection p3 with _ p3
    subst p3
    have hi3 : i' < 3 := p1
    have hbi := hb i' hi3
    have hwl : (fl.getD i' zFl).ws.length = r.length + 1 := by rw [g4]; rfl
    have hs' := (hD.ws i' hi3).2 s' (by rw [g4]; exact List.mem_cons_self ..)
    have hms := hD.ms
    rw [List.replicate_succ, playF, if_neg (by decide), if_neg (by decide), g1]
    show ∃ rs : List S52, rs.length = n + 1 ∧ playF (List.replicate n (⟨0, 0⟩ : S50)) fl' tn' (out ++ [⟨0, i', s'⟩]) = some (out ++ rs) ∧ _
    have hstep : ∀ (x15 : List S52) (j k : Nat) (rs : List S52), x15.drop j = ⟨0, (i' : Int), s'⟩ :: rs → x15.length ≤ 1000 → packthreadkeep_FairShare.l3 (k + 2) q M x15 sn cn (j : Int) = if rd (cn.set i' (rd cn (i' : Int) + 1)) (i' : Int) = 39 then some true else packthreadkeep_FairShare.l3 k q M x15 (sn.set i' (rd sn (i' : Int) + s')) (cn.set i' (rd cn (i' : Int) + 1)) ((j + 1 : Nat) : Int) := by
      intro x15 j k rs h1 h2
      have hj : x15[j]? = some ⟨0, (i' : Int), s'⟩ := by
        have := congrArg List.head? h1
        rw [List.head?_drop] at this
        exact this
      obtain ⟨hjl, _⟩ := List.getElem?_eq_some_iff.1 hj
      have hr : rd_T52 x15 (j : Int) = ⟨0, (i' : Int), s'⟩ := by unfold rd_T52; rw [Int.toNat_natCast, List.getD_eq_getElem?_getD, hj]; rfl
      rw [packthreadkeep_FairShare.l3, if_pos (by omega), if_pos (by omega), hr]
      show (if (0 : Int) = 0 then (if (i' : Int) < 0 then _ else packthreadkeep_FairShare.j4 (k + 1) q M x15 sn cn (j : Int) (decide ((i' : Int) > 2))) else _) = _
      rw [if_pos rfl, if_neg (by omega), decide_eq_false (by omega), packthreadkeep_FairShare.j4, if_neg (by decide), if_pos (by omega), if_pos (by omega), hr]
      show (if (0 : Int) ≤ (i' : Int) then (if (i' : Int) < (sn.length : Int) then (if (i' : Int) < (cn.length : Int) then _ else _) else _) else _) = _
      rw [if_pos (by omega), if_pos (by omega), if_pos (by omega), Option.bind_some, Int.toNat_natCast, wrap64_id (x := rd cn (i' : Int) + 1) (by omega) (by omega), wrap64_id (x := rd sn (i' : Int) + s') (by omega) (by omega), wrap64_id (x := (j : Int) + 1) (by omega) (by omega)]
      rfl
    by_cases hr : r = []
    · obtain ⟨rs, k1, k2⟩ := sends_total n 300 fl' tn' (out ++ [⟨0, i', s'⟩]) g7 (by omega)
      refine ⟨⟨0, i', s'⟩ :: rs, by rw [List.length_cons, k1], by rw [k2, List.append_assoc]; rfl, ?_⟩
      intro x15 j k h1 h2 h3 h4
      obtain ⟨k, rfl⟩ : ∃ q, k = q + 2 := ⟨k - 2, by omega⟩
      rw [hstep x15 j k rs h1 h3, rd_set _ _ _ _ (by omega), if_pos rfl, if_pos]
      have hr0 : r.length = 0 := by rw [hr]; rfl
      omega
    · obtain ⟨v', hD'⟩ := p5 hr
      have hrl : 1 ≤ r.length := List.length_pos_iff.2 hr
      obtain ⟨rs, k1, k2, k3⟩ := ih fl' tn' (out ++ [⟨0, i', s'⟩]) v' (sn.set i' (rd sn (i' : Int) + s')) (cn.set i' (rd cn (i' : Int) + 1)) g7 (hD'.congr (fun j hj => by
        show rd (sn.set i' (rd sn (i' : Int) + s')) (j : Int) = (if j = i' then rd sn (j : Int) + s' else rd sn (j : Int))
        rw [rd_set sn i' j _ (by omega)]
        split
        · rename_i e; rw [e]
        · rfl)) (by rw [List.length_set]; exact hs) (by rw [List.length_set]; exact hc) (fun j hj => by
        have hbj := hb j hj
        rw [rd_set _ _ _ _ (by omega), rd_set _ _ _ _ (by omega), g6 j]
        by_cases e : j = i'
        · subst e
          rw [if_pos rfl, if_pos rfl, if_pos rfl]
          omega
        · rw [if_neg e, if_neg e, if_neg e]
          exact hbj)
      refine ⟨⟨0, i', s'⟩ :: rs, by rw [List.length_cons, k1], by rw [k2, List.append_assoc]; rfl, ?_⟩
      intro x15 j k h1 h2 h3 h4
      obtain ⟨k, rfl⟩ : ∃ q, k = q + 2 := ⟨k - 2, by omega⟩
      rw [hstep x15 j k rs h1 h3, rd_set _ _ _ _ (by omega), if_pos rfl, if_neg (by omega)]
      refine k3 x15 (j + 1) k ?_ (by omega) h3 (by omega)
      have := congrArg List.tail h1
      rw [List.tail_drop] at this
      exact this
theorem comesO_eq (fl : List Fl) (tn : List Int) (i : Nat) (z : Int) (htn : tn.length ≤ 1000) (hi : i < fl.length) (hz : z ≤ 1500) (hw : (fl.getD i zFl).ws.length < 40) : comesO fl tn ⟨i, z⟩ = some (fl.set i { fl.getD i zFl with ws := (fl.getD i zFl).ws ++ [z] }, if (fl.getD i zFl).ws.length = 0 then tn ++ [(i : Int)] else tn, ⟨0, 0, 0⟩) := by
  unfold comesO
  rw [if_pos htn, if_neg (by show ¬ ((i : Int) < 0 ∨ (fl.length : Int) ≤ (i : Int) ∨ 1500 < z); omega)]
  simp only [Int.toNat_natCast]
  rw [if_neg (by omega), if_pos hw]
structure P1 (M : Int) (q : List Int) (t : Nat) (fl : List Fl) (tn : List Int) : Prop where
  len : fl.length = 3
  at_ : ∀ i : Nat, i < 3 → (fl.getD i zFl).qu = rd q (i : Int) ∧ (fl.getD i zFl).de = 0 ∧ (fl.getD i zFl).fd = false ∧ (fl.getD i zFl).ws.length = (t + 2 - i) / 3 ∧ ∀ s, s ∈ (fl.getD i zFl).ws → 1 ≤ s ∧ s ≤ M
  tn : tn = ([0, 1, 2] : List Int).take t
theorem share_in (M : Int) (q : List Int) (hM : 1 ≤ M ∧ M ≤ 150) (rest : List S50) : ∀ (l : List S50) (t : Nat) (fl : List Fl) (tn : List Int) (out : List S52), Inv t fl tn → P1 M q t fl tn → t + l.length ≤ 117 → (∀ (j : Nat) (h : j < l.length), l[j].f0 = (((t + j) % 3 : Nat) : Int) ∧ 1 ≤ l[j].f1 ∧ l[j].f1 ≤ M) →
    ∃ fl' tn', Inv (t + l.length) fl' tn' ∧ P1 M q (t + l.length) fl' tn' ∧ playF (l ++ rest) fl tn out = playF rest fl' tn' (out ++ List.replicate l.length (⟨0, 0, 0⟩ : S52)) := by
  intro l
  induction l with
  | nil =>
    intro t fl tn out h1 h2 h3 h4
    exact ⟨fl, tn, h1, h2, by rw [List.nil_append, List.length_nil, List.replicate_zero, List.append_nil]⟩
  | cons a l ih =>
    intro t fl tn out h1 h2 h3 h4
    rw [List.length_cons] at h3
    have ha := h4 0 (by simp)
    simp only [List.getElem_cons_zero, Nat.add_zero] at ha
    obtain ⟨i, hi⟩ : ∃ i, t % 3 = i := ⟨_, rfl⟩
    rw [hi] at ha
    have hi3 : i < 3 := by omega
    have hx := h2.at_ i hi3
    have hl := h2.len
    have htl : tn.length ≤ 3 := by rw [h2.tn, List.length_take]; simp; omega
    have ea : a = ⟨(i : Int), a.f1⟩ := by rw [← ha.1]
    have hc := comesO_eq fl tn i a.f1 (by omega) (by omega) (by omega) (by omega)
    obtain ⟨fl1, tn1, g1, g2, g3, g4⟩ := comesO_spec h1 (by omega) i a.f1 (by omega) ha.2.1 (by omega) (by omega)
    rw [hc] at g1
    simp only [Option.some.injEq, Prod.mk.injEq] at g1
    obtain ⟨rfl, rfl, _⟩ := g1
    have hP : P1 M q (t + 1) (fl.set i { fl.getD i zFl with ws := (fl.getD i zFl).ws ++ [a.f1] }) (if (fl.getD i zFl).ws.length = 0 then tn ++ [(i : Int)] else tn) := by
      refine ⟨by rw [List.length_set]; exact hl, fun j hj => ?_, ?_⟩
      · rw [getD_set2 _ _ _ _ _ (by omega)]
        by_cases e : j = i
        · subst e
          rw [if_pos rfl]
          refine ⟨hx.1, hx.2.1, hx.2.2.1, ?_, ?_⟩
          · show ((fl.getD j zFl).ws ++ [a.f1]).length = _
            rw [List.length_append, hx.2.2.2.1]
            simp
            omega
          · intro s hs
            rcases List.mem_append.1 hs with hs | hs
            · exact hx.2.2.2.2 s hs
            · rw [List.mem_singleton] at hs; rw [hs]; exact ha.2
        · rw [if_neg e]
          have hy := h2.at_ j hj
          exact ⟨hy.1, hy.2.1, hy.2.2.1, by rw [hy.2.2.2.1]; omega, hy.2.2.2.2⟩
      · rw [hx.2.2.2.1, h2.tn]
        by_cases e : t < 3
        · have : t = 0 ∨ t = 1 ∨ t = 2 := by omega
          rcases this with rfl | rfl | rfl
          all_goals
            subst hi
            rfl
        · rw [if_neg (by omega), List.take_of_length_le (by simp; omega), List.take_of_length_le (by simp; omega)]
    obtain ⟨fl', tn', k1, k2, k3⟩ := ih (t + 1) _ _ (out ++ [⟨0, 0, 0⟩]) g4 hP (by omega) (fun j hj => by
      have := h4 (j + 1) (by simp; omega)
      simp only [List.getElem_cons_succ] at this
      rw [show t + 1 + j = t + (j + 1) by omega]
      exact this)
    refine ⟨fl', tn', by rw [List.length_cons, show t + (l.length + 1) = t + 1 + l.length by omega]; exact k1, by rw [List.length_cons, show t + (l.length + 1) = t + 1 + l.length by omega]; exact k2, ?_⟩
    rw [List.cons_append, playF, if_pos (by omega), ea, hc]
    show playF _ _ _ (out ++ [⟨0, 0, 0⟩]) = _
    rw [k3, List.append_assoc, List.length_cons, List.replicate_succ]
    rfl
theorem P1.drr {M : Int} {q : List Int} {fl : List Fl} {tn : List Int} (h : P1 M q 117 fl tn) (hM : 1 ≤ M ∧ M ≤ 150) (hq : ∀ i : Nat, i < 3 → 1 ≤ rd q (i : Int) ∧ rd q (i : Int) ≤ 200) : DRR M q fl tn (fun _ => 0) (fun i => rd [0, 0, 0] (i : Int)) := by
  have hz : ∀ i : Nat, i < 3 → rd [0, 0, 0] (i : Int) = 0 := fun i hi => by
    have : i = 0 ∨ i = 1 ∨ i = 2 := by omega
    rcases this with rfl | rfl | rfl <;> rfl
  refine ⟨h.len, hq, hM, ⟨0, 1, 2, by rw [h.tn]; rfl, by omega, by omega, by omega, by omega, by omega, by omega, (h.at_ 1 (by omega)).2.2.1, (h.at_ 2 (by omega)).2.2.1, fun _ => ⟨Int.le_refl _, Int.le_refl _, by show (0 : Int) ≤ 0 + 1; omega⟩, fun g => by rw [(h.at_ 0 (by omega)).2.2.1] at g; exact absurd g (by simp)⟩, fun i hi => ?_, fun i hi => ?_, fun i hi => ?_, fun i hi => (h.at_ i hi).1, fun i hi => ?_⟩
  · rw [(h.at_ i hi).2.1, hz i hi]
    show (0 : Int) = 0 * _ - 0
    rw [Int.zero_mul]
    rfl
  · rw [(h.at_ i hi).2.1]
    exact Int.le_refl _
  · rw [(h.at_ i hi).2.1]
    have := hq i hi
    exact ⟨fun _ => by omega, by omega⟩
  · have := (h.at_ i hi).2.2.2.1
    refine ⟨fun e => ?_, (h.at_ i hi).2.2.2.2⟩
    rw [e] at this
    simp at this
    omega
/-- the feeds of the law, so far -/
def Built (M : Int) (l : List S50) : Prop := ∀ (j : Nat) (h : j < l.length), l[j].f0 = ((j % 3 : Nat) : Int) ∧ 1 ≤ l[j].f1 ∧ l[j].f1 ≤ M
theorem Built.snoc {M M' : Int} {l : List S50} (h : Built M l) (hM : M ≤ M') (a : S50) (h0 : a.f0 = ((l.length % 3 : Nat) : Int)) (h1 : 1 ≤ a.f1) (h2 : a.f1 ≤ M') : Built M' (l ++ [a]) := by
  intro j hj
  by_cases c : j < l.length
  · rw [List.getElem_append_left c]
    have := h j c
    exact ⟨this.1, this.2.1, by omega⟩
  · have e : j = l.length := by rw [List.length_append] at hj; simp at hj; omega
    subst e
    rw [List.getElem_append_right (Nat.le_refl _)]
    simp
    exact ⟨h0, h1, h2⟩
theorem share_l1 (x1 : List Int) (x2 : Int) (q : List Int) (r : Nat) (hr : r < 39) : ∀ (m f k : Nat) (x8 : List S50) (M : Int), f + m = 3 → x8.length = 3 * r + f → Built M x8 → 0 ≤ M ∧ M ≤ 150 → ∃ (x8' : List S50) (M' : Int), x8'.length = 3 * r + 3 ∧ Built M' x8' ∧ (0 ≤ M' ∧ M' ≤ 150) ∧ packthreadkeep_FairShare.l1 (k + m + 1) x1 x2 q x8 M (r : Int) (f : Int) = packthreadkeep_FairShare.l0 k x1 x2 q x8' M' ((r + 1 : Nat) : Int) := by
  intro m
  induction m with
  | zero =>
    intro f k x8 M h1 h2 h3 h4
    refine ⟨x8, M, by omega, h3, h4, ?_⟩
    rw [packthreadkeep_FairShare.l1, if_neg (by omega), wrap64_id (x := (r : Int) + 1) (by omega) (by omega)]
    rfl
  | succ m ih =>
    intro f k x8 M h1 h2 h3 h4
    have hmx : ∀ z : Int, 1 ≤ z → z ≤ 150 → M ≤ mx M z ∧ z ≤ mx M z ∧ mx M z ≤ 150 := fun z a b => by unfold mx; split <;> omega
    have hgo : ∀ z : Int, 1 ≤ z → z ≤ 150 → ∃ (x8' : List S50) (M' : Int), x8'.length = 3 * r + 3 ∧ Built M' x8' ∧ (0 ≤ M' ∧ M' ≤ 150) ∧ packthreadkeep_FairShare.l1 (k + m + 1) x1 x2 q (x8 ++ [(⟨(f : Int), z⟩ : S50)]) (mx M z) (r : Int) ((f : Int) + 1) = packthreadkeep_FairShare.l0 k x1 x2 q x8' M' ((r + 1 : Nat) : Int) := fun z a b => by
      have hm := hmx z a b
      exact ih (f + 1) k _ _ (by omega) (by rw [List.length_append, h2]; rfl) (h3.snoc hm.1 _ (by show (f : Int) = _; rw [h2]; omega) a hm.2.1) ⟨by omega, hm.2.2⟩
    rw [show k + (m + 1) + 1 = (k + m + 1) + 1 by omega, packthreadkeep_FairShare.l1, if_pos (by omega), wrap64_id (x := 3 * (r : Int)) (by omega) (by omega), wrap64_id (x := 3 * (r : Int) + (f : Int)) (by omega) (by omega), wrap64_id (x := (f : Int) + 1) (by omega) (by omega)]
    by_cases c : 3 * (r : Int) + (f : Int) < (x1.length : Int)
    · have hp0 := Int.emod_nonneg (rd x1 (3 * (r : Int) + (f : Int))) (show (150 : Int) ≠ 0 by omega)
      have hp1 := Int.emod_lt_of_pos (rd x1 (3 * (r : Int) + (f : Int))) (show (0 : Int) < 150 by omega)
      rw [if_pos c, if_pos (by omega), picked_eq _ _ (by decide) (by decide), Option.bind_some, if_pos (by omega), wrap64_id (x := 1 + rd x1 (3 * (r : Int) + (f : Int)) % 150) (by omega) (by omega)]
      exact hgo _ (by omega) (by omega)
    · rw [if_neg c, if_pos (by omega)]
      exact hgo 40 (by omega) (by omega)
theorem share_l0 (x1 : List Int) (x2 : Int) (q : List Int) : ∀ (m r k : Nat) (x8 : List S50) (M : Int), r + m = 39 → x8.length = 3 * r → Built M x8 → 0 ≤ M ∧ M ≤ 150 → ∃ (x8' : List S50) (M' : Int), x8'.length = 117 ∧ Built M' x8' ∧ (0 ≤ M' ∧ M' ≤ 150) ∧ packthreadkeep_FairShare.l0 (k + 5 * m + 1) x1 x2 q x8 M (r : Int) = packthreadkeep_FairShare.l2 k q x8' M' (x2 % 100) 0 := by
  intro m
  induction m with
  | zero =>
    intro r k x8 M h1 h2 h3 h4
    refine ⟨x8, M, by omega, h3, h4, ?_⟩
    rw [packthreadkeep_FairShare.l0, if_neg (by omega), picked_eq _ _ (by decide) (by decide), Option.bind_some]
  | succ m ih =>
    intro r k x8 M h1 h2 h3 h4
    obtain ⟨x8', M', g1, g2, g3, g4⟩ := share_l1 x1 x2 q r (by omega) 3 0 (k + 5 * m + 1) x8 M (by omega) (by omega) h3 h4
    obtain ⟨x8'', M'', k1, k2, k3, k4⟩ := ih (r + 1) k x8' M' (by omega) (by omega) g2 g3
    refine ⟨x8'', M'', k1, k2, k3, ?_⟩
    rw [show k + 5 * (m + 1) + 1 = (k + 5 * m + 1 + 3 + 1) + 1 by omega, packthreadkeep_FairShare.l0, if_pos (by omega)]
    exact g4.trans k4
theorem share_l2 (q : List Int) (M : Int) (n : Nat) (hn : n ≤ 100) : ∀ (m j k : Nat) (x : List S50), j + m = n → x.length + m ≤ 1000 → packthreadkeep_FairShare.l2 (k + m + 1) q x M (n : Int) (j : Int) = ((packthreadkeep_lined.f q (x ++ List.replicate m (⟨0, 0⟩ : S50))).bind fun bt158 => (if bt158.2 = true then (packthreadkeep_FairShare.l3 k q M bt158.1 (List.replicate 3 0) (List.replicate 3 0) 117) else (some false))) := by
  intro m
  induction m with
  | zero =>
    intro j k x h1 h2
    rw [packthreadkeep_FairShare.l2, if_neg (by omega), List.replicate_zero, List.append_nil]
    congr 1
  | succ m ih =>
    intro j k x h1 h2
    rw [show k + (m + 1) + 1 = (k + m + 1) + 1 by omega, packthreadkeep_FairShare.l2, if_pos (by omega), if_pos (by omega), wrap64_id (x := (j : Int) + 1) (by omega) (by omega), show (j : Int) + 1 = ((j + 1 : Nat) : Int) by omega, ih (j + 1) k _ (by omega) (by rw [List.length_append]; simp; omega), List.append_assoc, List.replicate_succ]
    rfl
-- LAW
theorem FairShare : packthreadkeep_FairShare.Pure := by
  intro l0 l1 a2 _ _ _ _ _ _ _
  have hp0 := Int.emod_nonneg a2 (show (100 : Int) ≠ 0 by omega)
  have hp1 := Int.emod_lt_of_pos a2 (show (0 : Int) < 100 by omega)
  obtain ⟨n, hn⟩ : ∃ n : Nat, a2 % 100 = (n : Int) := ⟨(a2 % 100).toNat, by omega⟩
  obtain ⟨k, hk⟩ : ∃ k, k = 1000 + n + 1 + 5 * 39 + 1 := ⟨_, rfl⟩
  obtain ⟨q, q1, q2, q3⟩ := quanta_eq k l0 (by omega)
  refine ⟨k, ?_⟩
  unfold packthreadkeep_FairShare.f
  rw [q1, Option.bind_some, hk]
  have hq : ∀ n, n ∈ q → 1 ≤ n ∧ n ≤ 1500 := fun n hn => by have := q3 n hn; omega
  have hqr : ∀ i : Nat, i < 3 → 1 ≤ rd q (i : Int) ∧ rd q (i : Int) ≤ 200 := fun i hi => by
    refine q3 _ ?_
    rw [rd, Int.toNat_natCast, List.getD_eq_getElem?_getD, List.getElem?_eq_getElem (by omega)]
    exact List.getElem_mem _
  obtain ⟨x8, M, g1, g2, g3, g4⟩ := share_l0 l1 a2 q 39 0 (1000 + n + 1) [] 0 (by omega) rfl (fun j hj => by simp at hj) (by omega)
  refine g4.trans ?_
  rw [hn]
  refine (share_l2 q M n (by omega) n 0 1000 x8 (by omega) (by omega)).trans ?_
  have hM : 1 ≤ M ∧ M ≤ 150 := by have := g2 0 (by omega); omega
  have h0 := Inv.start q (by omega) hq
  have hP0 : P1 M q 0 (q.map fun n => ⟨n, [], 0, false⟩) [] := by
    refine ⟨by rw [List.length_map]; exact q2, fun i hi => ?_, rfl⟩
    have e : (q.map fun n => (⟨n, [], 0, false⟩ : Fl)).getD i zFl = ⟨rd q (i : Int), [], 0, false⟩ := by
      rw [List.getD_eq_getElem?_getD, List.getElem?_map, List.getElem?_eq_getElem (by omega), rd, Int.toNat_natCast, List.getD_eq_getElem?_getD, List.getElem?_eq_getElem (by omega)]
      rfl
    rw [e]
    refine ⟨rfl, rfl, rfl, ?_, fun s hs => by simp at hs⟩
    show 0 = (0 + 2 - i) / 3
    omega
  obtain ⟨fl, tn, p1, p2, p3⟩ := share_in M q hM (List.replicate n (⟨0, 0⟩ : S50)) x8 0 _ _ [] h0 hP0 (by omega) (fun j hj => by rw [Nat.zero_add]; exact g2 j hj)
  rw [g1, Nat.zero_add] at p1 p2
  rw [g1, List.nil_append] at p3
  obtain ⟨rs, r1, r2, r3⟩ := share_sends q M q2 n fl tn (List.replicate 117 (⟨0, 0, 0⟩ : S52)) _ [0, 0, 0] [0, 0, 0] (p1.more (by omega)) (p2.drr hM hqr) rfl rfl (fun i hi => by
    have hz : rd [0, 0, 0] (i : Int) = 0 := by
      have : i = 0 ∨ i = 1 ∨ i = 2 := by omega
      rcases this with rfl | rfl | rfl <;> rfl
    have := (p2.at_ i hi).2.2.2.1
    rw [hz, this]
    omega)
  rw [r2] at p3
  rw [lined_eq q _ _ q2 hq (by rw [List.length_append, List.length_replicate]; omega) p3, Option.bind_some, if_pos rfl]
  exact r3 _ 117 1000 (by rw [List.drop_append, List.length_replicate, Nat.sub_self, List.drop_zero, List.drop_eq_nil_of_le (by simp), List.nil_append]) (by rw [List.length_append, List.length_replicate, r1]) (by rw [List.length_append, List.length_replicate]; omega) (by omega)

end Go.Proofs.Ytlgehakaedokeaa.Pure
