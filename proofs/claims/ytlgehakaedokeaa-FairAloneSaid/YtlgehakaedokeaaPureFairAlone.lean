/- Proved: for every input the law FairAlone answers true: who is alone is sent of at once, one packet behind the other. Condition: none (every row of numbers, every number). -/
import Derived.Test.YtlgehakaedokeaaPFairAlonex3
namespace Go.Proofs.Ytlgehakaedokeaa.Pure
open Go.RowKit Go.Proofs.Ytlgehakaedokeaa.PFairAlone Go.Proofs.YtlgehakaedokeaaW.PrintWords Go.Proofs.YtlgehakaedokeaaW.PrintLast
set_option linter.unusedVariables false

theorem wrap64_id {x : Int} (h0 : -9223372036854775808 ≤ x) (h1 : x ≤ 9223372036854775807) : wrap64 x = x := by unfold wrap64; omega

theorem picked_eq (a n : Int) (h0 : 0 < n) (h1 : n ≤ 1000000000000) : packthreadkeep_Picked.f a n = some (a % n) := by
  unfold packthreadkeep_Picked.f
  rw [if_neg (by omega)]
  have hm := Int.tmod_eq_emod (a := a) (b := n)
  have hlo := Int.emod_nonneg a (show n ≠ 0 by omega)
  have hhi := Int.emod_lt_of_pos a h0
  by_cases hc : 0 ≤ a ∨ n ∣ a
  · rw [if_pos hc] at hm
    have e : a.tmod n = a % n := by rw [hm]; simp
    rw [e, if_neg (by omega)]
  · rw [if_neg hc] at hm
    have e : a.tmod n = a % n - n := by rw [hm]; congr 1; omega
    rw [e, if_pos (by omega), wrap64_id (by omega) (by omega)]
    congr 1; omega

def FlOk (x : Fl) : Prop := 1 ≤ x.qu ∧ x.qu ≤ 1500 ∧ (∀ s, s ∈ x.ws → 1 ≤ s ∧ s ≤ 1500) ∧ x.ws.length ≤ 40 ∧ 0 ≤ x.de ∧ x.de ≤ 3000 ∧ (x.fd = false → x.de ≤ 1500) ∧ (x.ws = [] → x.de = 0 ∧ x.fd = false)
structure Inv (m : Nat) (fl : List Fl) (tn : List Int) : Prop where
  ok : ∀ x, x ∈ fl → FlOk x
  len : fl.length ≤ 6
  mem : ∀ t, t ∈ tn ↔ ∃ i : Nat, t = (i : Int) ∧ i < fl.length ∧ (fl.getD i zFl).ws ≠ []
  nod : tn.Nodup
  tl : tn.length ≤ m
/-- how far a flow is from being sent of -/
def mF (x : Fl) : Nat := match x.ws with | [] => 0 | s :: _ => 2 * (s - x.de).toNat + (if x.fd = true then 1 else 0)
def MF (fl : List Fl) : Nat := (fl.map mF).sum
theorem sum_set (f : Fl → Nat) (y z : Fl) : ∀ (l : List Fl) (i : Nat), i < l.length → ((l.set i y).map f).sum + f (l.getD i z) = (l.map f).sum + f y
  | [], i, h => by simp at h
  | a :: l, 0, h => by simp; omega
  | a :: l, i + 1, h => by
    have := sum_set f y z l i (by simpa using h)
    simp only [List.set_cons_succ, List.map_cons, List.sum_cons, List.getD_cons_succ]
    omega
theorem getD_set2 (l : List Fl) (i j : Nat) (y z : Fl) (hi : i < l.length) : (l.set i y).getD j z = if j = i then y else l.getD j z := by
  rw [List.getD_eq_getElem?_getD, List.getElem?_set]
  by_cases c : j = i
  · subst c
    rw [if_pos rfl, if_pos hi, if_pos rfl]
    rfl
  · rw [if_neg (fun h => c h.symm), if_neg c, List.getD_eq_getElem?_getD]
theorem getD_mem (l : List Fl) (i : Nat) (z : Fl) (hi : i < l.length) : l.getD i z ∈ l := by
  rw [List.getD_eq_getElem?_getD, List.getElem?_eq_getElem hi]
  exact List.getElem_mem hi
theorem set_ok {fl : List Fl} {y : Fl} (h : ∀ x, x ∈ fl → FlOk x) (hy : FlOk y) (i : Nat) : ∀ x, x ∈ fl.set i y → FlOk x := fun x hx => by
  rcases List.mem_or_eq_of_mem_set hx with h1 | h1
  · exact h x h1
  · rw [h1]; exact hy
theorem MF_le {fl : List Fl} : (∀ x, x ∈ fl → FlOk x) → MF fl ≤ 3001 * fl.length := by
  induction fl with
  | nil => intro _; exact Nat.le_refl _
  | cons a l ih =>
    intro h
    have h1 := ih (fun x hx => h x (List.mem_cons_of_mem _ hx))
    have h2 := h a (List.mem_cons_self ..)
    have h3 : mF a ≤ 3001 := by
      unfold mF
      split
      · omega
      · rename_i s r hw
        have := (h2.2.2.1) s (by rw [hw]; exact List.mem_cons_self ..)
        have := h2.2.2.2.2.1
        split <;> omega
    show ((a :: l).map mF).sum ≤ _
    rw [List.map_cons, List.sum_cons, List.length_cons]
    unfold MF at h1
    omega
theorem Inv.elem {m : Nat} {fl : List Fl} {t : Int} {tr : List Int} (h : Inv m fl (t :: tr)) : ∃ (i : Nat) (s : Int) (r : List Int), t = (i : Int) ∧ i < fl.length ∧ (fl.getD i zFl).ws = s :: r ∧ FlOk (fl.getD i zFl) := by
  obtain ⟨i, h1, h2, h3⟩ := (h.mem t).1 (List.mem_cons_self ..)
  rcases hw : (fl.getD i zFl).ws with _ | ⟨s, r⟩
  · exact absurd hw h3
  · exact ⟨i, s, r, h1, h2, hw, h.ok _ (getD_mem fl i zFl h2)⟩
theorem fed_ok {x : Fl} {s : Int} {r : List Int} (h : FlOk x) (hw : x.ws = s :: r) : (fedF x).qu = x.qu ∧ (fedF x).fd = true ∧ (fedF x).de = (if x.fd = true then x.de else x.de + x.qu) ∧ 0 ≤ (fedF x).de ∧ (fedF x).de ≤ 3000 := by
  obtain ⟨h1, h2, h3, h4, h5, h6, h7, h8⟩ := h
  unfold fedF
  by_cases c : x.fd = true
  · rw [if_pos c, if_pos c]
    exact ⟨rfl, c, rfl, h5, h6⟩
  · rw [if_neg c, if_neg c]
    have h9 := h7 (by simpa using c)
    have e : wrap64 (x.de + x.qu) = x.de + x.qu := wrap64_id (by omega) (by omega)
    refine ⟨rfl, rfl, e, ?_, ?_⟩
    · show 0 ≤ wrap64 (x.de + x.qu)
      omega
    · show wrap64 (x.de + x.qu) ≤ 3000
      omega
/-- what a sending does -/
theorem sends_spec (m : Nat) : ∀ (k : Nat) (fl : List Fl) (tn : List Int), Inv m fl tn → tn ≠ [] → MF fl < k →
    ∃ (i : Nat) (s : Int) (r : List Int) (fl' : List Fl) (tn' : List Int), sendsF k fl tn = some (fl', tn', ⟨0, i, s⟩) ∧ (i : Int) ∈ tn ∧ i < fl.length ∧ (fl.getD i zFl).ws = s :: r ∧ fl'.length = fl.length ∧ (∀ j, (fl'.getD j zFl).ws = if j = i then r else (fl.getD j zFl).ws) ∧ Inv m fl' tn' := by
  intro k
  induction k with
  | zero => intro fl tn _ _ h; omega
  | succ k ih =>
    intro fl tn hI hne hM
    rcases tn with _ | ⟨t, tr⟩
    · exact absurd rfl hne
    obtain ⟨i, s, r, rfl, hi, hw, hok⟩ := hI.elem
    obtain ⟨x, hx⟩ : ∃ x, fl.getD i zFl = x := ⟨_, rfl⟩
    rw [hx] at hw hok
    obtain ⟨f1, f2, f3, f4, f5⟩ := fed_ok hok hw
    have hsr := hok.2.2.1
    have hs : 1 ≤ s ∧ s ≤ 1500 := hsr s (by rw [hw]; exact List.mem_cons_self ..)
    obtain ⟨x1, hx1⟩ : ∃ y, fedF x = y := ⟨_, rfl⟩
    have hw1 : x1.ws = s :: r := by rw [← hx1, fedF_ws]; exact hw
    rw [hx1] at f1 f2 f3 f4 f5
    rw [sendsF]
    simp only [if_pos (show (0 : Int) ≤ (i : Int) ∧ (i : Int) < fl.length by omega), Int.toNat_natCast, hx, hx1, hw1]
    have hnc := List.nodup_cons.1 hI.nod
    have hwsn : ∀ y : Fl, y.ws ≠ [] → ∀ t, (∃ j : Nat, t = (j : Int) ∧ j < fl.length ∧ (fl.getD j zFl).ws ≠ []) ↔ ∃ j : Nat, t = (j : Int) ∧ j < (fl.set i y).length ∧ ((fl.set i y).getD j zFl).ws ≠ [] := by
      intro y hy t
      constructor
      · rintro ⟨j, h1, h2, h3⟩
        refine ⟨j, h1, by rw [List.length_set]; exact h2, ?_⟩
        rw [getD_set2 _ _ _ _ _ hi]
        split
        · exact hy
        · exact h3
      · rintro ⟨j, h1, h2, h3⟩
        rw [List.length_set] at h2
        refine ⟨j, h1, h2, ?_⟩
        rw [getD_set2 _ _ _ _ _ hi] at h3
        by_cases c : j = i
        · rw [c, hx, hw]; simp
        · rw [if_neg c] at h3; exact h3
    by_cases c : s ≤ x1.de
    · rw [if_pos c]
      unfold sentF
      rw [getD_set fl i x1 zFl hi]
      simp only [hw1]
      by_cases hr : r = []
      · rw [if_pos hr]
        refine ⟨i, s, r, _, _, rfl, List.mem_cons_self .., hi, by rw [hx]; exact hw, by rw [List.length_set, List.length_set], ?_, ?_⟩
        · intro j
          rw [List.set_set, getD_set2 _ _ _ _ _ hi]
          split
          · exact hr.symm
          · rfl
        · rw [List.set_set]
          have hok2 : FlOk { x1 with ws := [], de := 0, fd := false } := ⟨by show 1 ≤ x1.qu; rw [f1]; exact hok.1, by show x1.qu ≤ 1500; rw [f1]; exact hok.2.1, fun y hy => by simp at hy, by simp, by simp, by simp, fun _ => by simp, fun _ => ⟨rfl, rfl⟩⟩
          refine ⟨set_ok hI.ok hok2 i, by rw [List.length_set]; exact hI.len, ?_, hnc.2, by have := hI.tl; rw [List.length_cons] at this; omega⟩
          intro t
          constructor
          · intro ht
            obtain ⟨j, h1, h2, h3⟩ := (hI.mem t).1 (List.mem_cons_of_mem _ ht)
            refine ⟨j, h1, by rw [List.length_set]; exact h2, ?_⟩
            rw [getD_set2 _ _ _ _ _ hi, if_neg]
            · exact h3
            · intro e
              subst e
              rw [h1] at ht
              exact hnc.1 ht
          · rintro ⟨j, h1, h2, h3⟩
            rw [List.length_set] at h2
            rw [getD_set2 _ _ _ _ _ hi] at h3
            by_cases e : j = i
            · rw [if_pos e] at h3; exact absurd rfl h3
            · rw [if_neg e] at h3
              rcases List.mem_cons.1 ((hI.mem t).2 ⟨j, h1, h2, h3⟩) with h4 | h4
              · omega
              · exact h4
      · rw [if_neg hr]
        have e : wrap64 (x1.de - s) = x1.de - s := wrap64_id (by omega) (by omega)
        rw [e]
        refine ⟨i, s, r, _, _, rfl, List.mem_cons_self .., hi, by rw [hx]; exact hw, by rw [List.length_set, List.length_set], ?_, ?_⟩
        · intro j
          rw [List.set_set, getD_set2 _ _ _ _ _ hi]
          split <;> rfl
        · rw [List.set_set]
          have hok2 : FlOk { x1 with ws := r, de := x1.de - s } := ⟨by show 1 ≤ x1.qu; rw [f1]; exact hok.1, by show x1.qu ≤ 1500; rw [f1]; exact hok.2.1, fun y hy => hsr y (by rw [hw]; exact List.mem_cons_of_mem _ hy), by have := hok.2.2.2.1; rw [hw] at this; simp at this; show r.length ≤ 40; omega, by show 0 ≤ x1.de - s; omega, by show x1.de - s ≤ 3000; omega, fun h => by rw [show x1.fd = true from f2] at h; exact absurd h (by simp), fun h => absurd h hr⟩
          exact ⟨set_ok hI.ok hok2 i, by rw [List.length_set]; exact hI.len, fun t => (hI.mem t).trans (hwsn _ hr t), hI.nod, hI.tl⟩
    · rw [if_neg c]
      have hok2 : FlOk { x1 with ws := s :: r, fd := false } := ⟨by show 1 ≤ x1.qu; rw [f1]; exact hok.1, by show x1.qu ≤ 1500; rw [f1]; exact hok.2.1, fun y hy => hsr y (by rw [hw]; exact hy), by have := hok.2.2.2.1; rw [hw] at this; exact this, f4, f5, fun _ => by show x1.de ≤ 1500; omega, fun h => by simp at h⟩
      have hmem2 : ∀ t, t ∈ tr ++ [(i : Int)] ↔ t ∈ (i : Int) :: tr := fun t => by rw [List.mem_append, List.mem_singleton, List.mem_cons]; exact ⟨fun h => h.symm, fun h => h.symm⟩
      have hI2 : Inv m (fl.set i { x1 with ws := s :: r, fd := false }) (tr ++ [(i : Int)]) := by
        refine ⟨set_ok hI.ok hok2 i, by rw [List.length_set]; exact hI.len, fun t => (hmem2 t).trans ((hI.mem t).trans (hwsn _ (by simp) t)), ?_, by have := hI.tl; rw [List.length_append]; rw [List.length_cons] at this; simpa using this⟩
        rw [List.nodup_append]
        refine ⟨hnc.2, by simp, ?_⟩
        intro a ha b hb
        rw [List.mem_singleton] at hb
        subst hb
        intro e
        subst e
        exact hnc.1 ha
      have hm1 := sum_set mF { x1 with ws := s :: r, fd := false } zFl fl i hi
      rw [hx] at hm1
      have hm2 : mF { x1 with ws := s :: r, fd := false } < mF x := by
        unfold mF
        rw [hw]
        simp only [Bool.false_eq_true, if_false]
        by_cases cf : x.fd = true
        · rw [if_pos cf] at f3 ⊢
          rw [f3]
          omega
        · rw [if_neg cf] at f3 ⊢
          rw [f3] at c ⊢
          have := hok.1
          omega
      obtain ⟨i', s', r', fl', tn', g1, g2, g3, g4, g5, g6, g7⟩ := ih _ _ hI2 (by simp) (by unfold MF at hM ⊢; omega)
      rw [List.length_set] at g3 g5
      have hgd : ∀ j, ((fl.set i { x1 with ws := s :: r, fd := false }).getD j zFl).ws = (fl.getD j zFl).ws := fun j => by
        rw [getD_set2 _ _ _ _ _ hi]
        split
        · rename_i e; rw [e, hx, hw]
        · rfl
      refine ⟨i', s', r', fl', tn', g1, (hmem2 _).1 g2, g3, by rw [← hgd]; exact g4, g5, fun j => by rw [g6 j, hgd j], g7⟩
theorem sendsO_spec {m : Nat} {fl : List Fl} {tn : List Int} (h : Inv m fl tn) (hm : m ≤ 1000) (hne : tn ≠ []) : ∃ (i : Nat) (s : Int) (r : List Int) (fl' : List Fl) (tn' : List Int), sendsO fl tn = some (fl', tn', ⟨0, i, s⟩) ∧ (i : Int) ∈ tn ∧ i < fl.length ∧ (fl.getD i zFl).ws = s :: r ∧ fl'.length = fl.length ∧ (∀ j, (fl'.getD j zFl).ws = if j = i then r else (fl.getD j zFl).ws) ∧ Inv m fl' tn' := by
  have h1 := MF_le h.ok
  have h2 := h.len
  have h3 := h.tl
  unfold sendsO
  rw [if_pos (by omega), if_neg hne]
  exact sends_spec m fairFuel fl tn h hne (by unfold fairFuel; omega)
theorem sendsO_none {m : Nat} {fl : List Fl} (_ : Inv m fl []) : sendsO fl [] = some (fl, [], ⟨7, 0, 0⟩) := by
  unfold sendsO
  rw [if_pos (by simp), if_pos rfl]
/-- what a coming does -/
theorem comesO_full {m : Nat} {fl : List Fl} {tn : List Int} (h : Inv m fl tn) (hm : m ≤ 1000) (i : Nat) (z : Int) (hi : i < fl.length) (hz : z ≤ 1500) (hf : (fl.getD i zFl).ws.length = 40) : comesO fl tn ⟨i, z⟩ = some (fl, tn, ⟨9, 0, 0⟩) := by
  have h3 := h.tl
  unfold comesO
  rw [if_pos (by omega), if_neg (by show ¬ ((i : Int) < 0 ∨ (fl.length : Int) ≤ (i : Int) ∨ 1500 < z); omega)]
  show (if (fl.getD ((i : Int)).toNat zFl).ws.length = 40 then _ else _) = _
  rw [Int.toNat_natCast, if_pos hf]
theorem comesO_spec {m : Nat} {fl : List Fl} {tn : List Int} (h : Inv m fl tn) (hm : m ≤ 1000) (i : Nat) (z : Int) (hi : i < fl.length) (h0 : 1 ≤ z) (hz : z ≤ 1500) (hf : ¬ (fl.getD i zFl).ws.length = 40) :
    ∃ fl' tn', comesO fl tn ⟨i, z⟩ = some (fl', tn', ⟨0, 0, 0⟩) ∧ fl'.length = fl.length ∧ (∀ j, (fl'.getD j zFl).ws = if j = i then (fl.getD i zFl).ws ++ [z] else (fl.getD j zFl).ws) ∧ Inv (m + 1) fl' tn' := by
  have h3 := h.tl
  have hok := h.ok _ (getD_mem fl i zFl hi)
  have hl := hok.2.2.2.1
  unfold comesO
  rw [if_pos (by omega), if_neg (by show ¬ ((i : Int) < 0 ∨ (fl.length : Int) ≤ (i : Int) ∨ 1500 < z); omega)]
  simp only [Int.toNat_natCast]
  rw [if_neg hf, if_pos (by omega)]
  obtain ⟨x, hx⟩ : ∃ x, fl.getD i zFl = x := ⟨_, rfl⟩
  rw [hx] at hok hl hf ⊢
  refine ⟨_, _, rfl, by rw [List.length_set], fun j => by rw [getD_set2 _ _ _ _ _ hi]; split <;> rfl, ?_⟩
  have hok2 : FlOk { x with ws := x.ws ++ [z] } := by
    obtain ⟨a1, a2, a3, a4, a5, a6, a7, a8⟩ := hok
    refine ⟨a1, a2, fun s hs => ?_, by show (x.ws ++ [z]).length ≤ 40; rw [List.length_append]; simp; omega, a5, a6, a7, fun e => by simp at e⟩
    rcases List.mem_append.1 hs with hs | hs
    · exact a3 s hs
    · rw [List.mem_singleton] at hs; rw [hs]; exact ⟨h0, hz⟩
  have hmem : ∀ t, (∃ j : Nat, t = (j : Int) ∧ j < (fl.set i { x with ws := x.ws ++ [z] }).length ∧ ((fl.set i { x with ws := x.ws ++ [z] }).getD j zFl).ws ≠ []) ↔ t = (i : Int) ∨ ∃ j : Nat, t = (j : Int) ∧ j < fl.length ∧ (fl.getD j zFl).ws ≠ [] := by
    intro t
    constructor
    · rintro ⟨j, g1, g2, g3⟩
      rw [List.length_set] at g2
      rw [getD_set2 _ _ _ _ _ hi] at g3
      by_cases c : j = i
      · left; omega
      · rw [if_neg c] at g3; exact .inr ⟨j, g1, g2, g3⟩
    · rintro (g | ⟨j, g1, g2, g3⟩)
      · refine ⟨i, g, by rw [List.length_set]; exact hi, ?_⟩
        rw [getD_set2 _ _ _ _ _ hi, if_pos rfl]
        simp
      · refine ⟨j, g1, by rw [List.length_set]; exact g2, ?_⟩
        rw [getD_set2 _ _ _ _ _ hi]
        split
        · simp
        · exact g3
  by_cases c : x.ws.length = 0
  · rw [if_pos c]
    have hni : (i : Int) ∉ tn := fun hm => by
      obtain ⟨j, g1, g2, g3⟩ := (h.mem _).1 hm
      have : j = i := by omega
      rw [this, hx] at g3
      exact g3 (List.eq_nil_of_length_eq_zero c)
    refine ⟨set_ok h.ok hok2 i, by rw [List.length_set]; exact h.len, fun t => ?_, ?_, by rw [List.length_append]; simp; omega⟩
    · rw [hmem t, ← h.mem t, List.mem_append, List.mem_singleton]
      exact ⟨fun g => g.symm, fun g => g.symm⟩
    · rw [List.nodup_append]
      refine ⟨h.nod, by simp, ?_⟩
      intro a ha b hb
      rw [List.mem_singleton] at hb
      subst hb
      intro e
      subst e
      exact hni ha
  · rw [if_neg c]
    refine ⟨set_ok h.ok hok2 i, by rw [List.length_set]; exact h.len, fun t => ?_, h.nod, by omega⟩
    rw [hmem t, ← h.mem t]
    constructor
    · exact fun g => .inr g
    · rintro (g | g)
      · exact (h.mem t).2 ⟨i, g, hi, by rw [hx]; intro e; rw [e] at c; exact c rfl⟩
      · exact g
theorem Inv.start (qs : List Int) (h6 : qs.length ≤ 6) (hg : ∀ n, n ∈ qs → 1 ≤ n ∧ n ≤ 1500) : Inv 0 (qs.map fun n => ⟨n, [], 0, false⟩) [] := by
  refine ⟨fun x hx => ?_, by rw [List.length_map]; exact h6, fun t => ?_, List.nodup_nil, Nat.le_refl _⟩
  · obtain ⟨n, hn, rfl⟩ := List.mem_map.1 hx
    have := hg n hn
    exact ⟨this.1, this.2, fun s hs => by simp at hs, by simp, by simp, by simp, fun _ => by simp, fun _ => ⟨rfl, rfl⟩⟩
  · constructor
    · intro h; simp at h
    · rintro ⟨j, g1, g2, g3⟩
      exfalso
      apply g3
      rw [List.length_map] at g2
      rw [List.getD_eq_getElem?_getD, List.getElem?_map, List.getElem?_eq_getElem g2]
      rfl
theorem Inv.more {m n : Nat} {fl : List Fl} {tn : List Int} (h : Inv m fl tn) (hn : m ≤ n) : Inv n fl tn := ⟨h.ok, h.len, h.mem, h.nod, by have := h.tl; omega⟩

theorem quanta_l0 (l : List Int) : ∀ (m i k : Nat) (x : List Int), i + m = 3 → m < k → x.length = 3 → (∀ n, n ∈ x → 1 ≤ n ∧ n ≤ 200) → ∃ q, packthreadkeep_Quanta.l0 k l x (i : Int) = some q ∧ q.length = 3 ∧ ∀ n, n ∈ q → 1 ≤ n ∧ n ≤ 200 := by
  intro m
  induction m with
  | zero =>
    intro i k x h1 h2 h3 h4
    obtain ⟨k, rfl⟩ : ∃ q, k = q + 1 := ⟨k - 1, by omega⟩
    exact ⟨x, by rw [packthreadkeep_Quanta.l0, if_neg (by omega)], h3, h4⟩
  | succ m ih =>
    intro i k x h1 h2 h3 h4
    obtain ⟨k, rfl⟩ : ∃ q, k = q + 1 := ⟨k - 1, by omega⟩
    rw [packthreadkeep_Quanta.l0, if_pos (by omega)]
    by_cases c : (i : Int) < (l.length : Int)
    · have hp0 := Int.emod_nonneg (rd l (i : Int)) (show (200 : Int) ≠ 0 by omega)
      have hp1 := Int.emod_lt_of_pos (rd l (i : Int)) (show (0 : Int) < 200 by omega)
      rw [if_pos c, if_pos (by omega), picked_eq _ _ (by decide) (by decide), Option.bind_some, if_pos (by omega), wrap64_id (x := (i : Int) + 1) (by omega) (by omega), wrap64_id (x := 1 + rd l (i : Int) % 200) (by omega) (by omega)]
      refine ih (i + 1) k _ (by omega) (by omega) (by rw [List.length_set]; exact h3) ?_
      intro n hn
      rcases List.mem_or_eq_of_mem_set hn with h | h
      · exact h4 n h
      · omega
    · rw [if_neg c]
      exact ⟨x, rfl, h3, h4⟩
theorem quanta_eq (k : Nat) (l : List Int) (hk : 10 ≤ k) : ∃ q, packthreadkeep_Quanta.f k l = some q ∧ q.length = 3 ∧ ∀ n, n ∈ q → 1 ≤ n ∧ n ≤ 200 := by
  unfold packthreadkeep_Quanta.f
  refine quanta_l0 l 3 0 k _ (by omega) (by omega) rfl ?_
  intro n hn
  simp at hn
  omega
theorem play_len : ∀ (l : List S50) (fl : List Fl) (tn : List Int) (out res : List S52), playF l fl tn out = some res → res.length = out.length + l.length
  | [], fl, tn, out, res, h => by
    rw [playF] at h
    injection h with h
    subst h
    rfl
  | a :: l, fl, tn, out, res, h => by
    rw [playF] at h
    by_cases c : 0 < a.f1
    · rw [if_pos c] at h
      rcases hc : comesO fl tn a with _ | r
      · rw [hc] at h; exact absurd h (by simp)
      · rw [hc] at h
        have := play_len l _ _ _ _ h
        rw [this, List.length_append, List.length_cons, List.length_cons, List.length_nil]
        omega
    · rw [if_neg c] at h
      by_cases d : a.f1 < 0
      · rw [if_pos d] at h
        have := play_len l _ _ _ _ h
        rw [this, List.length_append, List.length_cons, List.length_cons, List.length_nil]
        omega
      · rw [if_neg d] at h
        rcases hc : sendsO fl tn with _ | r
        · rw [hc] at h; exact absurd h (by simp)
        · rw [hc] at h
          have := play_len l _ _ _ _ h
          rw [this, List.length_append, List.length_cons, List.length_cons, List.length_nil]
          omega
theorem one_eq : fair_Play.f [3] [(⟨0, 7⟩ : S50), (⟨0, 0⟩ : S50)] = some ([⟨0, 0, 0⟩, ⟨0, 0, 7⟩], 0) := by
  have h0 := Inv.start [3] (by simp) (by intro n hn; simp at hn; omega)
  obtain ⟨fl1, tn1, g1, g2, g3, g4⟩ := comesO_spec h0 (by omega) 0 7 (by simp) (by omega) (by omega) (by simp)
  have hw0 : (fl1.getD 0 zFl).ws = [7] := by rw [g3 0, if_pos rfl]; rfl
  have hl1 : fl1.length = 1 := by rw [g2]; rfl
  have hne : tn1 ≠ [] := by
    have := (g4.mem (0 : Int)).2 ⟨0, rfl, by omega, by rw [hw0]; simp⟩
    intro e
    rw [e] at this
    simp at this
  obtain ⟨i, s, r, fl2, tn2, k1, k2, k3, k4, _⟩ := sendsO_spec g4 (by omega) hne
  obtain rfl : i = 0 := by omega
  rw [hw0] at k4
  injection k4 with k4 _
  subst k4
  unfold fair_Play.f
  rw [if_pos ⟨by simp, by simp, by simp, by intro n hn; simp at hn; omega⟩]
  have : playF [(⟨0, 7⟩ : S50), (⟨0, 0⟩ : S50)] ([3].map fun n => (⟨n, [], 0, false⟩ : Fl)) [] [] = some [⟨0, 0, 0⟩, ⟨0, 0, 7⟩] := by
    rw [playF, if_pos (by decide)]
    rw [show comesO ([3].map fun n => (⟨n, [], 0, false⟩ : Fl)) [] ⟨0, 7⟩ = _ from g1]
    show playF [⟨0, 0⟩] fl1 tn1 _ = _
    rw [playF, if_neg (by decide), if_neg (by decide), k1]
    rfl
  rw [this]
theorem lined_eq (q : List Int) (l : List S50) (res : List S52) (hq : q.length = 3) (hg : ∀ n, n ∈ q → 1 ≤ n ∧ n ≤ 1500) (hl : l.length ≤ 300) (h : playF l (q.map fun n => ⟨n, [], 0, false⟩) [] [] = some res) : packthreadkeep_lined.f q l = some (res, true) := by
  have hlen := play_len l _ _ _ _ h
  unfold packthreadkeep_lined.f
  rw [if_pos (by rw [List.length_nil]; omega), if_pos (by rw [List.length_nil]; omega), List.nil_append, List.nil_append]
  have hp : fair_Play.f q l = some (res, 0) := by
    unfold fair_Play.f
    rw [if_pos ⟨by omega, by omega, hl, hg⟩, h]
  rw [hp, Option.bind_some, one_eq, Option.bind_some, if_pos rfl]
  show (if ((res.length : Nat) : Int) = (l.length : Int) then _ else _) = _
  rw [if_pos (by rw [hlen]; simp), if_pos rfl]
  rfl

theorem alone_in (f : Nat) (rest : List S50) : ∀ (zs : List Int) (m : Nat) (fl : List Fl) (tn : List Int) (out : List S52) (done : List Int), Inv m fl tn → m + zs.length ≤ 1000 → f < fl.length → (∀ j, j ≠ f → (fl.getD j zFl).ws = []) → (fl.getD f zFl).ws = done → done.length + zs.length ≤ 40 → (∀ z, z ∈ zs → 1 ≤ z ∧ z ≤ 1500) →
    ∃ fl' tn', Inv (m + zs.length) fl' tn' ∧ (fl'.getD f zFl).ws = done ++ zs ∧ (∀ j, j ≠ f → (fl'.getD j zFl).ws = []) ∧ fl'.length = fl.length ∧ playF (zs.map (fun z => (⟨(f : Int), z⟩ : S50)) ++ rest) fl tn out = playF rest fl' tn' (out ++ zs.map (fun _ => (⟨0, 0, 0⟩ : S52))) := by
  intro zs
  induction zs with
  | nil =>
    intro m fl tn out done h1 h2 h3 h4 h5 h6 h7
    exact ⟨fl, tn, h1, by rw [h5, List.append_nil], h4, rfl, by rw [List.map_nil, List.map_nil, List.nil_append, List.append_nil]⟩
  | cons z zs ih =>
    intro m fl tn out done h1 h2 h3 h4 h5 h6 h7
    rw [List.length_cons] at h2 h6
    have hz := h7 z (List.mem_cons_self ..)
    obtain ⟨fl1, tn1, g1, g2, g3, g4⟩ := comesO_spec h1 (by omega) f z h3 hz.1 hz.2 (by rw [h5]; omega)
    obtain ⟨fl', tn', k1, k2, k3, k4, k5⟩ := ih (m + 1) fl1 tn1 (out ++ [⟨0, 0, 0⟩]) (done ++ [z]) g4 (by omega) (by omega) (fun j hj => by rw [g3 j, if_neg hj]; exact h4 j hj) (by rw [g3 f, if_pos rfl, h5]) (by rw [List.length_append]; simp; omega) (fun y hy => h7 y (List.mem_cons_of_mem _ hy))
    refine ⟨fl', tn', by rw [List.length_cons, show m + (zs.length + 1) = m + 1 + zs.length by omega]; exact k1, by rw [k2, List.append_assoc]; rfl, k3, by rw [k4, g2], ?_⟩
    rw [List.map_cons, List.cons_append, playF, if_pos (by show 0 < z; omega), g1]
    show playF _ fl1 tn1 (out ++ [⟨0, 0, 0⟩]) = _
    rw [k5, List.append_assoc]
    rfl
theorem alone_out (f m : Nat) (hm : m ≤ 1000) : ∀ (ws : List Int) (fl : List Fl) (tn : List Int) (out : List S52), Inv m fl tn → f < fl.length → (∀ j, j ≠ f → (fl.getD j zFl).ws = []) → (fl.getD f zFl).ws = ws → playF (List.replicate (ws.length + 1) (⟨0, 0⟩ : S50)) fl tn out = some (out ++ ws.map (fun s => (⟨0, (f : Int), s⟩ : S52)) ++ [⟨7, 0, 0⟩]) := by
  intro ws
  induction ws with
  | nil =>
    intro fl tn out h1 h2 h3 h4
    have htn : tn = [] := by
      rcases tn with _ | ⟨t, tr⟩
      · rfl
      · obtain ⟨j, _, _, g3⟩ := (h1.mem t).1 (List.mem_cons_self ..)
        by_cases c : j = f
        · rw [c, h4] at g3; exact absurd rfl g3
        · exact absurd (h3 j c) g3
    subst htn
    rw [List.length_nil, List.replicate_succ, playF, if_neg (by decide), if_neg (by decide), sendsO_none h1, List.replicate_zero, List.map_nil, List.append_nil]
    rfl
  | cons s r ih =>
    intro fl tn out h1 h2 h3 h4
    have hne : tn ≠ [] := by
      have := (h1.mem (f : Int)).2 ⟨f, rfl, h2, by rw [h4]; simp⟩
      intro e
      rw [e] at this
      simp at this
    obtain ⟨i, s', r', fl', tn', k1, k2, k3, k4, k5, k6, k7⟩ := sendsO_spec h1 hm hne
    have hi : i = f := by
      by_cases c : i = f
      · exact c
      · rw [h3 i c] at k4; exact absurd k4 (by simp)
    subst hi
    rw [h4] at k4
    injection k4 with k4 k4'
    subst k4 k4'
    rw [List.length_cons, List.replicate_succ, playF, if_neg (by decide), if_neg (by decide), k1]
    show playF (List.replicate (r.length + 1) (⟨0, 0⟩ : S50)) fl' tn' (out ++ [⟨0, i, s⟩]) = _
    rw [ih fl' tn' _ k7 (by omega) (fun j hj => by rw [k6 j, if_neg hj]; exact h3 j hj) (by rw [k6 i, if_pos rfl]), List.map_cons, List.append_assoc, List.append_assoc, List.append_assoc]
    rfl
theorem fa_l0 (x0 l : List Int) (f : Int) : ∀ (m i k : Nat) (zs : List Int), i + m = min l.length 40 → zs.length = i → (∀ z, z ∈ zs → 1 ≤ z ∧ z ≤ 1500) →
    ∃ zs' : List Int, zs'.length = min l.length 40 ∧ (∀ z, z ∈ zs' → 1 ≤ z ∧ z ≤ 1500) ∧ packthreadkeep_FairAlone.l0 (k + m + 1) x0 l f (zs.map (fun z => (⟨f, z⟩ : S50))) (i : Int) = packthreadkeep_FairAlone.j1 k x0 f (zs'.map (fun z => (⟨f, z⟩ : S50))) := by
  intro m
  induction m with
  | zero =>
    intro i k zs h1 h2 h3
    refine ⟨zs, by omega, h3, ?_⟩
    rw [packthreadkeep_FairAlone.l0]
    by_cases c : (i : Int) < (l.length : Int)
    · rw [if_pos c, if_neg (by omega)]
    · rw [if_neg c]
  | succ m ih =>
    intro i k zs h1 h2 h3
    have hp0 := Int.emod_nonneg (rd l (i : Int)) (show (1500 : Int) ≠ 0 by omega)
    have hp1 := Int.emod_lt_of_pos (rd l (i : Int)) (show (0 : Int) < 1500 by omega)
    obtain ⟨zs', g1, g2, g3⟩ := ih (i + 1) k (zs ++ [1 + rd l (i : Int) % 1500]) (by omega) (by rw [List.length_append, h2]; rfl) (fun z hz => by
      rcases List.mem_append.1 hz with hz | hz
      · exact h3 z hz
      · rw [List.mem_singleton] at hz; omega)
    refine ⟨zs', g1, g2, ?_⟩
    rw [show k + (m + 1) + 1 = (k + m + 1) + 1 by omega, packthreadkeep_FairAlone.l0, if_pos (by omega), if_pos (by omega), if_pos (by omega), picked_eq _ _ (by decide) (by decide), Option.bind_some, if_pos (by rw [List.length_map]; omega), wrap64_id (x := 1 + rd l (i : Int) % 1500) (by omega) (by omega), wrap64_id (x := (i : Int) + 1) (by omega) (by omega), ← g3, List.map_append]
    rfl
theorem fa_l1 (x0 : List Int) (f : Int) (n : Nat) (hn : n ≤ 100) : ∀ (m j k : Nat) (x : List S50), j + m = n + 1 → x.length + m ≤ 1000 → packthreadkeep_FairAlone.l1 (k + m + 1) x0 f x (n : Int) (j : Int) = ((packthreadkeep_Quanta.f k x0).bind fun t152 => ((packthreadkeep_lined.f t152 (x ++ List.replicate m (⟨0, 0⟩ : S50))).bind fun bt155 => (if bt155.2 = true then (packthreadkeep_FairAlone.l2 k f (x ++ List.replicate m (⟨0, 0⟩ : S50)) (n : Int) bt155.1 0) else (some false)))) := by
  intro m
  induction m with
  | zero =>
    intro j k x h1 h2
    rw [packthreadkeep_FairAlone.l1, if_neg (by omega), List.replicate_zero, List.append_nil]
  | succ m ih =>
    intro j k x h1 h2
    rw [show k + (m + 1) + 1 = (k + m + 1) + 1 by omega, packthreadkeep_FairAlone.l1, if_pos (by omega), if_pos (by omega), wrap64_id (x := (j : Int) + 1) (by omega) (by omega), show (j : Int) + 1 = ((j + 1 : Nat) : Int) by omega, ih (j + 1) k _ (by omega) (by rw [List.length_append]; simp; omega), List.append_assoc, List.replicate_succ]
    rfl
theorem fa_l2 (f : Nat) (zs : List Int) (x8 : List S50) (x12 : List S52) (hz : zs.length ≤ 100) (h8 : x8 = zs.map (fun z => (⟨(f : Int), z⟩ : S50)) ++ List.replicate (zs.length + 1) (⟨0, 0⟩ : S50)) (h12 : x12 = zs.map (fun _ => (⟨0, 0, 0⟩ : S52)) ++ zs.map (fun s => (⟨0, (f : Int), s⟩ : S52)) ++ [⟨7, 0, 0⟩]) : ∀ (m i k : Nat), i + m = zs.length → m < k → packthreadkeep_FairAlone.l2 k (f : Int) x8 (zs.length : Int) x12 (i : Int) = some true := by
  have hl : x12.length = 2 * zs.length + 1 := by rw [h12]; simp; omega
  have hl8 : x8.length = 2 * zs.length + 1 := by rw [h8]; simp; omega
  intro m
  induction m with
  | zero =>
    intro i k h1 h2
    obtain ⟨k, rfl⟩ : ∃ q, k = q + 1 := ⟨k - 1, by omega⟩
    rw [packthreadkeep_FairAlone.l2, if_neg (by omega), wrap64_id (x := 2 * (zs.length : Int)) (by omega) (by omega), if_pos (by omega), if_pos (by omega)]
    have : rd_T52 x12 (2 * (zs.length : Int)) = ⟨7, 0, 0⟩ := by
      unfold rd_T52
      rw [show (2 * (zs.length : Int)).toNat = (zs.map (fun _ => (⟨0, 0, 0⟩ : S52)) ++ zs.map (fun s => (⟨0, (f : Int), s⟩ : S52))).length by simp; omega, h12, List.getD_eq_getElem?_getD, List.getElem?_append_right (Nat.le_refl _)]
      simp
    rw [this]
    rfl
  | succ m ih =>
    intro i k h1 h2
    obtain ⟨k, rfl⟩ : ∃ q, k = q + 1 := ⟨k - 1, by omega⟩
    have hi : i < zs.length := by omega
    have e1 : rd_T52 x12 ((zs.length : Int) + (i : Int)) = ⟨0, (f : Int), zs[i]⟩ := by
      unfold rd_T52
      rw [show ((zs.length : Int) + (i : Int)).toNat = zs.length + i by omega, h12, List.getD_eq_getElem?_getD, List.append_assoc, List.getElem?_append_right (by simp), List.getElem?_append_left (by simp; omega)]
      simp [hi]
    have e2 : rd_T50 x8 (i : Int) = ⟨(f : Int), zs[i]⟩ := by
      unfold rd_T50
      rw [Int.toNat_natCast, h8, List.getD_eq_getElem?_getD, List.getElem?_append_left (by simp; omega)]
      simp [hi]
    rw [packthreadkeep_FairAlone.l2, if_pos (by omega), wrap64_id (x := (zs.length : Int) + (i : Int)) (by omega) (by omega), if_pos (by omega), if_pos (by omega), e1, if_pos rfl, if_pos rfl, if_pos (by omega), if_pos (by omega), e2, if_pos rfl, wrap64_id (x := (i : Int) + 1) (by omega) (by omega), show (i : Int) + 1 = ((i + 1 : Nat) : Int) by omega]
    exact ih (i + 1) k (by omega) (by omega)
theorem FairAlone : packthreadkeep_FairAlone.Pure := by
  intro l0 a1 l2 _ _ _ _ _ _ _
  have hp0 := Int.emod_nonneg a1 (show (3 : Int) ≠ 0 by omega)
  have hp1 := Int.emod_lt_of_pos a1 (show (0 : Int) < 3 by omega)
  obtain ⟨f, hf⟩ : ∃ f : Nat, a1 % 3 = (f : Int) := ⟨(a1 % 3).toNat, by omega⟩
  have hmin : min l2.length 40 ≤ 40 := Nat.min_le_right _ _
  obtain ⟨n, hn⟩ : ∃ n, min l2.length 40 = n := ⟨_, rfl⟩
  obtain ⟨zs, z1, z2, z3⟩ := fa_l0 l0 l2 (f : Int) n 0 (1000 + (n + 1) + 1 + 1) [] (by omega) rfl (fun z hz => by simp at hz)
  rw [hn] at z1 hmin
  refine ⟨1000 + (n + 1) + 1 + 1 + n + 1, ?_⟩
  unfold packthreadkeep_FairAlone.f
  rw [picked_eq _ _ (by decide) (by decide), Option.bind_some, hf]
  refine z3.trans ?_
  rw [packthreadkeep_FairAlone.j1, List.length_map, z1]
  have h1 := fa_l1 l0 (f : Int) n (by omega) (n + 1) 0 1000 (zs.map (fun z => (⟨(f : Int), z⟩ : S50))) (by omega) (by rw [List.length_map]; omega)
  refine h1.trans ?_
  obtain ⟨q, q1, q2, q3⟩ := quanta_eq 1000 l0 (by omega)
  have hq : ∀ n, n ∈ q → 1 ≤ n ∧ n ≤ 1500 := fun n hn => by have := q3 n hn; omega
  have h0 := Inv.start q (by omega) hq
  have hws0 : ∀ j, ((q.map fun n => (⟨n, [], 0, false⟩ : Fl)).getD j zFl).ws = [] := fun j => by
    rw [List.getD_eq_getElem?_getD, List.getElem?_map]
    rcases q[j]? with _ | v <;> rfl
  obtain ⟨fl1, tn1, g1, g2, g3, g4, g5⟩ := alone_in f (List.replicate (n + 1) (⟨0, 0⟩ : S50)) zs 0 _ [] [] [] h0 (by omega) (by rw [List.length_map]; omega) (fun j _ => hws0 j) (hws0 f) (by simp; omega) z2
  rw [List.nil_append] at g2
  have g6 := alone_out f (0 + zs.length) (by omega) zs fl1 tn1 ([] ++ zs.map (fun _ => (⟨0, 0, 0⟩ : S52))) g1 (by rw [g4, List.length_map]; omega) g3 g2
  rw [z1] at g6
  rw [g6, List.nil_append] at g5
  rw [q1, Option.bind_some, lined_eq q _ _ q2 hq (by simp; omega) g5, Option.bind_some, if_pos rfl]
  have h2 := fa_l2 f zs _ _ (by omega) rfl rfl zs.length 0 1000 (by omega) (by omega)
  rw [z1] at h2
  exact h2

end Go.Proofs.Ytlgehakaedokeaa.Pure
