/- Proved: for every input the law FairAll answers true: what came is sent in the end, all of it, of all flows. Condition: none (every row of numbers). -/
import Derived.Test.YtlgehakaedokeaaPFairAllx3
namespace Go.Proofs.Ytlgehakaedokeaa.Pure
open Go.RowKit Go.Proofs.Ytlgehakaedokeaa.PFairAll Go.Proofs.YtlgehakaedokeaaW.PrintWords Go.Proofs.YtlgehakaedokeaaW.PrintLast
set_option linter.unusedVariables false

theorem wrap64_id {x : Int} (h0 : -9223372036854775808 ≤ x) (h1 : x ≤ 9223372036854775807) : wrap64 x = x := by unfold wrap64; omega

theorem picked_eq (a n : Int) (h0 : 0 < n) (h1 : n ≤ 1000000000000) : packthreadkeep_Picked.f a n = some (a % n) := by
  unfold packthreadkeep_Picked.f
  rw [if_neg (by omega)]
  have hm := Int.tmod_eq_emod (a := a) (b := n)
  have hlo := Int.emod_nonneg a (show n ≠ 0 by omega)
  have hhi := Int.emod_lt_of_pos a h0
  by_cases hc : 0 ≤ a ∨ n ∣ a
  · rw [if_pos hc] at hm
    have e : a.tmod n = a % n := by rw [hm]; simp
    rw [e, if_neg (by omega)]
  · rw [if_neg hc] at hm
    have e : a.tmod n = a % n - n := by rw [hm]; congr 1; omega
    rw [e, if_pos (by omega), wrap64_id (by omega) (by omega)]
    congr 1; omega

def FlOk (x : Fl) : Prop := 1 ≤ x.qu ∧ x.qu ≤ 1500 ∧ (∀ s, s ∈ x.ws → 1 ≤ s ∧ s ≤ 1500) ∧ x.ws.length ≤ 40 ∧ 0 ≤ x.de ∧ x.de ≤ 3000 ∧ (x.fd = false → x.de ≤ 1500) ∧ (x.ws = [] → x.de = 0 ∧ x.fd = false)
structure Inv (m : Nat) (fl : List Fl) (tn : List Int) : Prop where
  ok : ∀ x, x ∈ fl → FlOk x
  len : fl.length ≤ 6
  mem : ∀ t, t ∈ tn ↔ ∃ i : Nat, t = (i : Int) ∧ i < fl.length ∧ (fl.getD i zFl).ws ≠ []
  nod : tn.Nodup
  tl : tn.length ≤ m
/-- how far a flow is from being sent of -/
def mF (x : Fl) : Nat := match x.ws with | [] => 0 | s :: _ => 2 * (s - x.de).toNat + (if x.fd = true then 1 else 0)
def MF (fl : List Fl) : Nat := (fl.map mF).sum
theorem sum_set (f : Fl → Nat) (y z : Fl) : ∀ (l : List Fl) (i : Nat), i < l.length → ((l.set i y).map f).sum + f (l.getD i z) = (l.map f).sum + f y
  | [], i, h => by simp at h
  | a :: l, 0, h => by simp; omega
  | a :: l, i + 1, h => by
    have := sum_set f y z l i (by simpa using h)
    simp only [List.set_cons_succ, List.map_cons, List.sum_cons, List.getD_cons_succ]
    omega
theorem getD_set2 (l : List Fl) (i j : Nat) (y z : Fl) (hi : i < l.length) : (l.set i y).getD j z = if j = i then y else l.getD j z := by
  rw [List.getD_eq_getElem?_getD, List.getElem?_set]
  by_cases c : j = i
  · subst c
    rw [if_pos rfl, if_pos hi, if_pos rfl]
    rfl
  · rw [if_neg (fun h => c h.symm), if_neg c, List.getD_eq_getElem?_getD]
theorem getD_mem (l : List Fl) (i : Nat) (z : Fl) (hi : i < l.length) : l.getD i z ∈ l := by
  rw [List.getD_eq_getElem?_getD, List.getElem?_eq_getElem hi]
  exact List.getElem_mem hi
theorem set_ok {fl : List Fl} {y : Fl} (h : ∀ x, x ∈ fl → FlOk x) (hy : FlOk y) (i : Nat) : ∀ x, x ∈ fl.set i y → FlOk x := fun x hx => by
  rcases List.mem_or_eq_of_mem_set hx with h1 | h1
  · exact h x h1
  · rw [h1]; exact hy
theorem MF_le {fl : List Fl} : (∀ x, x ∈ fl → FlOk x) → MF fl ≤ 3001 * fl.length := by
  induction fl with
  | nil => intro _; exact Nat.le_refl _
  | cons a l ih =>
    intro h
    have h1 := ih (fun x hx => h x (List.mem_cons_of_mem _ hx))
    have h2 := h a (List.mem_cons_self ..)
    have h3 : mF a ≤ 3001 := by
      unfold mF
      split
      · omega
      · rename_i s r hw
        have := (h2.2.2.1) s (by rw [hw]; exact List.mem_cons_self ..)
        have := h2.2.2.2.2.1
        split <;> omega
    show ((a :: l).map mF).sum ≤ _
    rw [List.map_cons, List.sum_cons, List.length_cons]
    unfold MF at h1
    omega
theorem Inv.elem {m : Nat} {fl : List Fl} {t : Int} {tr : List Int} (h : Inv m fl (t :: tr)) : ∃ (i : Nat) (s : Int) (r : List Int), t = (i : Int) ∧ i < fl.length ∧ (fl.getD i zFl).ws = s :: r ∧ FlOk (fl.getD i zFl) := by
  obtain ⟨i, h1, h2, h3⟩ := (h.mem t).1 (List.mem_cons_self ..)
  rcases hw : (fl.getD i zFl).ws with _ | ⟨s, r⟩
  · exact absurd hw h3
  · exact ⟨i, s, r, h1, h2, hw, h.ok _ (getD_mem fl i zFl h2)⟩
theorem fed_ok {x : Fl} {s : Int} {r : List Int} (h : FlOk x) (hw : x.ws = s :: r) : (fedF x).qu = x.qu ∧ (fedF x).fd = true ∧ (fedF x).de = (if x.fd = true then x.de else x.de + x.qu) ∧ 0 ≤ (fedF x).de ∧ (fedF x).de ≤ 3000 := by
  obtain ⟨h1, h2, h3, h4, h5, h6, h7, h8⟩ := h
  unfold fedF
  by_cases c : x.fd = true
  · rw [if_pos c, if_pos c]
    exact ⟨rfl, c, rfl, h5, h6⟩
  · rw [if_neg c, if_neg c]
    have h9 := h7 (by simpa using c)
    have e : wrap64 (x.de + x.qu) = x.de + x.qu := wrap64_id (by omega) (by omega)
    refine ⟨rfl, rfl, e, ?_, ?_⟩
    · show 0 ≤ wrap64 (x.de + x.qu)
      omega
    · show wrap64 (x.de + x.qu) ≤ 3000
      omega
/-- what a sending does -/
theorem sends_spec (m : Nat) : ∀ (k : Nat) (fl : List Fl) (tn : List Int), Inv m fl tn → tn ≠ [] → MF fl < k →
    ∃ (i : Nat) (s : Int) (r : List Int) (fl' : List Fl) (tn' : List Int), sendsF k fl tn = some (fl', tn', ⟨0, i, s⟩) ∧ (i : Int) ∈ tn ∧ i < fl.length ∧ (fl.getD i zFl).ws = s :: r ∧ fl'.length = fl.length ∧ (∀ j, (fl'.getD j zFl).ws = if j = i then r else (fl.getD j zFl).ws) ∧ Inv m fl' tn' := by
  intro k
  induction k with
  | zero => intro fl tn _ _ h; omega
  | succ k ih =>
    intro fl tn hI hne hM
    rcases tn with _ | ⟨t, tr⟩
    · exact absurd rfl hne
    obtain ⟨i, s, r, rfl, hi, hw, hok⟩ := hI.elem
    obtain ⟨x, hx⟩ : ∃ x, fl.getD i zFl = x := ⟨_, rfl⟩
    rw [hx] at hw hok
    obtain ⟨f1, f2, f3, f4, f5⟩ := fed_ok hok hw
    have hsr := hok.2.2.1
    have hs : 1 ≤ s ∧ s ≤ 1500 := hsr s (by rw [hw]; exact List.mem_cons_self ..)
    obtain ⟨x1, hx1⟩ : ∃ y, fedF x = y := ⟨_, rfl⟩
    have hw1 : x1.ws = s :: r := by rw [← hx1, fedF_ws]; exact hw
    rw [hx1] at f1 f2 f3 f4 f5
    rw [sendsF]
    simp only [if_pos (show (0 : Int) ≤ (i : Int) ∧ (i : Int) < fl.length by omega), Int.toNat_natCast, hx, hx1, hw1]
    have hnc := List.nodup_cons.1 hI.nod
    have hwsn : ∀ y : Fl, y.ws ≠ [] → ∀ t, (∃ j : Nat, t = (j : Int) ∧ j < fl.length ∧ (fl.getD j zFl).ws ≠ []) ↔ ∃ j : Nat, t = (j : Int) ∧ j < (fl.set i y).length ∧ ((fl.set i y).getD j zFl).ws ≠ [] := by
      intro y hy t
      constructor
      · rintro ⟨j, h1, h2, h3⟩
        refine ⟨j, h1, by rw [List.length_set]; exact h2, ?_⟩
        rw [getD_set2 _ _ _ _ _ hi]
        split
        · exact hy
        · exact h3
      · rintro ⟨j, h1, h2, h3⟩
        rw [List.length_set] at h2
        refine ⟨j, h1, h2, ?_⟩
        rw [getD_set2 _ _ _ _ _ hi] at h3
        by_cases c : j = i
        · rw [c, hx, hw]; simp
        · rw [if_neg c] at h3; exact h3
    by_cases c : s ≤ x1.de
    · rw [if_pos c]
      unfold sentF
      rw [getD_set fl i x1 zFl hi]
      simp only [hw1]
      by_cases hr : r = []
      · rw [if_pos hr]
        refine ⟨i, s, r, _, _, rfl, List.mem_cons_self .., hi, by rw [hx]; exact hw, by rw [List.length_set, List.length_set], ?_, ?_⟩
        · intro j
          rw [List.set_set, getD_set2 _ _ _ _ _ hi]
          split
          · exact hr.symm
          · rfl
        · rw [List.set_set]
          have hok2 : FlOk { x1 with ws := [], de := 0, fd := false } := ⟨by show 1 ≤ x1.qu; rw [f1]; exact hok.1, by show x1.qu ≤ 1500; rw [f1]; exact hok.2.1, fun y hy => by simp at hy, by simp, by simp, by simp, fun _ => by simp, fun _ => ⟨rfl, rfl⟩⟩
          refine ⟨set_ok hI.ok hok2 i, by rw [List.length_set]; exact hI.len, ?_, hnc.2, by have := hI.tl; rw [List.length_cons] at this; omega⟩
          intro t
          constructor
          · intro ht
            obtain ⟨j, h1, h2, h3⟩ := (hI.mem t).1 (List.mem_cons_of_mem _ ht)
            refine ⟨j, h1, by rw [List.length_set]; exact h2, ?_⟩
            rw [getD_set2 _ _ _ _ _ hi, if_neg]
            · exact h3
            · intro e
              subst e
              rw [h1] at ht
              exact hnc.1 ht
          · rintro ⟨j, h1, h2, h3⟩
            rw [List.length_set] at h2
            rw [getD_set2 _ _ _ _ _ hi] at h3
            by_cases e : j = i
            · rw [if_pos e] at h3; exact absurd rfl h3
            · rw [if_neg e] at h3
              rcases List.mem_cons.1 ((hI.mem t).2 ⟨j, h1, h2, h3⟩) with h4 | h4
              · omega
              · exact h4
      · rw [if_neg hr]
        have e : wrap64 (x1.de - s) = x1.de - s := wrap64_id (by omega) (by omega)
        rw [e]
        refine ⟨i, s, r, _, _, rfl, List.mem_cons_self .., hi, by rw [hx]; exact hw, by rw [List.length_set, List.length_set], ?_, ?_⟩
        · intro j
          rw [List.set_set, getD_set2 _ _ _ _ _ hi]
          split <;> rfl
        · rw [List.set_set]
          have hok2 : FlOk { x1 with ws := r, de := x1.de - s } := ⟨by show 1 ≤ x1.qu; rw [f1]; exact hok.1, by show x1.qu ≤ 1500; rw [f1]; exact hok.2.1, fun y hy => hsr y (by rw [hw]; exact List.mem_cons_of_mem _ hy), by have := hok.2.2.2.1; rw [hw] at this; simp at this; show r.length ≤ 40; omega, by show 0 ≤ x1.de - s; omega, by show x1.de - s ≤ 3000; omega, fun h => by rw [show x1.fd = true from f2] at h; exact absurd h (by simp), fun h => absurd h hr⟩
          exact ⟨set_ok hI.ok hok2 i, by rw [List.length_set]; exact hI.len, fun t => (hI.mem t).trans (hwsn _ hr t), hI.nod, hI.tl⟩
    · rw [if_neg c]
      have hok2 : FlOk { x1 with ws := s :: r, fd := false } := ⟨by show 1 ≤ x1.qu; rw [f1]; exact hok.1, by show x1.qu ≤ 1500; rw [f1]; exact hok.2.1, fun y hy => hsr y (by rw [hw]; exact hy), by have := hok.2.2.2.1; rw [hw] at this; exact this, f4, f5, fun _ => by show x1.de ≤ 1500; omega, fun h => by simp at h⟩
      have hmem2 : ∀ t, t ∈ tr ++ [(i : Int)] ↔ t ∈ (i : Int) :: tr := fun t => by rw [List.mem_append, List.mem_singleton, List.mem_cons]; exact ⟨fun h => h.symm, fun h => h.symm⟩
      have hI2 : Inv m (fl.set i { x1 with ws := s :: r, fd := false }) (tr ++ [(i : Int)]) := by
        refine ⟨set_ok hI.ok hok2 i, by rw [List.length_set]; exact hI.len, fun t => (hmem2 t).trans ((hI.mem t).trans (hwsn _ (by simp) t)), ?_, by have := hI.tl; rw [List.length_append]; rw [List.length_cons] at this; simpa using this⟩
        rw [List.nodup_append]
        refine ⟨hnc.2, by simp, ?_⟩
        intro a ha b hb
        rw [List.mem_singleton] at hb
        subst hb
        intro e
        subst e
        exact hnc.1 ha
      have hm1 := sum_set mF { x1 with ws := s :: r, fd := false } zFl fl i hi
      rw [hx] at hm1
      have hm2 : mF { x1 with ws := s :: r, fd := false } < mF x := by
        unfold mF
        rw [hw]
        simp only [Bool.false_eq_true, if_false]
        by_cases cf : x.fd = true
        · rw [if_pos cf] at f3 ⊢
          rw [f3]
          omega
        · rw [if_neg cf] at f3 ⊢
          rw [f3] at c ⊢
          have := hok.1
          omega
      obtain ⟨i', s', r', fl', tn', g1, g2, g3, g4, g5, g6, g7⟩ := ih _ _ hI2 (by simp) (by unfold MF at hM ⊢; omega)
      rw [List.length_set] at g3 g5
      have hgd : ∀ j, ((fl.set i { x1 with ws := s :: r, fd := false }).getD j zFl).ws = (fl.getD j zFl).ws := fun j => by
        rw [getD_set2 _ _ _ _ _ hi]
        split
        · rename_i e; rw [e, hx, hw]
        · rfl
      refine ⟨i', s', r', fl', tn', g1, (hmem2 _).1 g2, g3, by rw [← hgd]; exact g4, g5, fun j => by rw [g6 j, hgd j], g7⟩
theorem sendsO_spec {m : Nat} {fl : List Fl} {tn : List Int} (h : Inv m fl tn) (hm : m ≤ 1000) (hne : tn ≠ []) : ∃ (i : Nat) (s : Int) (r : List Int) (fl' : List Fl) (tn' : List Int), sendsO fl tn = some (fl', tn', ⟨0, i, s⟩) ∧ (i : Int) ∈ tn ∧ i < fl.length ∧ (fl.getD i zFl).ws = s :: r ∧ fl'.length = fl.length ∧ (∀ j, (fl'.getD j zFl).ws = if j = i then r else (fl.getD j zFl).ws) ∧ Inv m fl' tn' := by
  have h1 := MF_le h.ok
  have h2 := h.len
  have h3 := h.tl
  unfold sendsO
  rw [if_pos (by omega), if_neg hne]
  exact sends_spec m fairFuel fl tn h hne (by unfold fairFuel; omega)
theorem sendsO_none {m : Nat} {fl : List Fl} (_ : Inv m fl []) : sendsO fl [] = some (fl, [], ⟨7, 0, 0⟩) := by
  unfold sendsO
  rw [if_pos (by simp), if_pos rfl]
/-- what a coming does -/
theorem comesO_full {m : Nat} {fl : List Fl} {tn : List Int} (h : Inv m fl tn) (hm : m ≤ 1000) (i : Nat) (z : Int) (hi : i < fl.length) (hz : z ≤ 1500) (hf : (fl.getD i zFl).ws.length = 40) : comesO fl tn ⟨i, z⟩ = some (fl, tn, ⟨9, 0, 0⟩) := by
  have h3 := h.tl
  unfold comesO
  rw [if_pos (by omega), if_neg (by show ¬ ((i : Int) < 0 ∨ (fl.length : Int) ≤ (i : Int) ∨ 1500 < z); omega)]
  show (if (fl.getD ((i : Int)).toNat zFl).ws.length = 40 then _ else _) = _
  rw [Int.toNat_natCast, if_pos hf]
theorem comesO_spec {m : Nat} {fl : List Fl} {tn : List Int} (h : Inv m fl tn) (hm : m ≤ 1000) (i : Nat) (z : Int) (hi : i < fl.length) (h0 : 1 ≤ z) (hz : z ≤ 1500) (hf : ¬ (fl.getD i zFl).ws.length = 40) :
    ∃ fl' tn', comesO fl tn ⟨i, z⟩ = some (fl', tn', ⟨0, 0, 0⟩) ∧ fl'.length = fl.length ∧ (∀ j, (fl'.getD j zFl).ws = if j = i then (fl.getD i zFl).ws ++ [z] else (fl.getD j zFl).ws) ∧ Inv (m + 1) fl' tn' := by
  have h3 := h.tl
  have hok := h.ok _ (getD_mem fl i zFl hi)
  have hl := hok.2.2.2.1
  unfold comesO
  rw [if_pos (by omega), if_neg (by show ¬ ((i : Int) < 0 ∨ (fl.length : Int) ≤ (i : Int) ∨ 1500 < z); omega)]
  simp only [Int.toNat_natCast]
  rw [if_neg hf, if_pos (by omega)]
  obtain ⟨x, hx⟩ : ∃ x, fl.getD i zFl = x := ⟨_, rfl⟩
  rw [hx] at hok hl hf ⊢
  refine ⟨_, _, rfl, by rw [List.length_set], fun j => by rw [getD_set2 _ _ _ _ _ hi]; split <;> rfl, ?_⟩
  have hok2 : FlOk { x with ws := x.ws ++ [z] } := by
    obtain ⟨a1, a2, a3, a4, a5, a6, a7, a8⟩ := hok
    refine ⟨a1, a2, fun s hs => ?_, by show (x.ws ++ [z]).length ≤ 40; rw [List.length_append]; simp; omega, a5, a6, a7, fun e => by simp at e⟩
    rcases List.mem_append.1 hs with hs | hs
    · exact a3 s hs
    · rw [List.mem_singleton] at hs; rw [hs]; exact ⟨h0, hz⟩
  have hmem : ∀ t, (∃ j : Nat, t = (j : Int) ∧ j < (fl.set i { x with ws := x.ws ++ [z] }).length ∧ ((fl.set i { x with ws := x.ws ++ [z] }).getD j zFl).ws ≠ []) ↔ t = (i : Int) ∨ ∃ j : Nat, t = (j : Int) ∧ j < fl.length ∧ (fl.getD j zFl).ws ≠ [] := by
    intro t
    constructor
    · rintro ⟨j, g1, g2, g3⟩
      rw [List.length_set] at g2
      rw [getD_set2 _ _ _ _ _ hi] at g3
      by_cases c : j = i
      · left; omega
      · rw [if_neg c] at g3; exact .inr ⟨j, g1, g2, g3⟩
    · rintro (g | ⟨j, g1, g2, g3⟩)
      · refine ⟨i, g, by rw [List.length_set]; exact hi, ?_⟩
        rw [getD_set2 _ _ _ _ _ hi, if_pos rfl]
        simp
      · refine ⟨j, g1, by rw [List.length_set]; exact g2, ?_⟩
        rw [getD_set2 _ _ _ _ _ hi]
        split
        · simp
        · exact g3
  by_cases c : x.ws.length = 0
  · rw [if_pos c]
    have hni : (i : Int) ∉ tn := fun hm => by
      obtain ⟨j, g1, g2, g3⟩ := (h.mem _).1 hm
      have : j = i := by omega
      rw [this, hx] at g3
      exact g3 (List.eq_nil_of_length_eq_zero c)
    refine ⟨set_ok h.ok hok2 i, by rw [List.length_set]; exact h.len, fun t => ?_, ?_, by rw [List.length_append]; simp; omega⟩
    · rw [hmem t, ← h.mem t, List.mem_append, List.mem_singleton]
      exact ⟨fun g => g.symm, fun g => g.symm⟩
    · rw [List.nodup_append]
      refine ⟨h.nod, by simp, ?_⟩
      intro a ha b hb
      rw [List.mem_singleton] at hb
      subst hb
      intro e
      subst e
      exact hni ha
  · rw [if_neg c]
    refine ⟨set_ok h.ok hok2 i, by rw [List.length_set]; exact h.len, fun t => ?_, h.nod, by omega⟩
    rw [hmem t, ← h.mem t]
    constructor
    · exact fun g => .inr g
    · rintro (g | g)
      · exact (h.mem t).2 ⟨i, g, hi, by rw [hx]; intro e; rw [e] at c; exact c rfl⟩
      · exact g
theorem Inv.start (qs : List Int) (h6 : qs.length ≤ 6) (hg : ∀ n, n ∈ qs → 1 ≤ n ∧ n ≤ 1500) : Inv 0 (qs.map fun n => ⟨n, [], 0, false⟩) [] := by
  refine ⟨fun x hx => ?_, by rw [List.length_map]; exact h6, fun t => ?_, List.nodup_nil, Nat.le_refl _⟩
  · obtain ⟨n, hn, rfl⟩ := List.mem_map.1 hx
    have := hg n hn
    exact ⟨this.1, this.2, fun s hs => by simp at hs, by simp, by simp, by simp, fun _ => by simp, fun _ => ⟨rfl, rfl⟩⟩
  · constructor
    · intro h; simp at h
    · rintro ⟨j, g1, g2, g3⟩
      exfalso
      apply g3
      rw [List.length_map] at g2
      rw [List.getD_eq_getElem?_getD, List.getElem?_map, List.getElem?_eq_getElem g2]
      rfl
theorem Inv.more {m n : Nat} {fl : List Fl} {tn : List Int} (h : Inv m fl tn) (hn : m ≤ n) : Inv n fl tn := ⟨h.ok, h.len, h.mem, h.nod, by have := h.tl; omega⟩

theorem quanta_l0 (l : List Int) : ∀ (m i k : Nat) (x : List Int), i + m = 3 → m < k → x.length = 3 → (∀ n, n ∈ x → 1 ≤ n ∧ n ≤ 200) → ∃ q, packthreadkeep_Quanta.l0 k l x (i : Int) = some q ∧ q.length = 3 ∧ ∀ n, n ∈ q → 1 ≤ n ∧ n ≤ 200 := by
  intro m
  induction m with
  | zero =>
    intro i k x h1 h2 h3 h4
    obtain ⟨k, rfl⟩ : ∃ q, k = q + 1 := ⟨k - 1, by omega⟩
    exact ⟨x, by rw [packthreadkeep_Quanta.l0, if_neg (by omega)], h3, h4⟩
  | succ m ih =>
    intro i k x h1 h2 h3 h4
    obtain ⟨k, rfl⟩ : ∃ q, k = q + 1 := ⟨k - 1, by omega⟩
    rw [packthreadkeep_Quanta.l0, if_pos (by omega)]
    by_cases c : (i : Int) < (l.length : Int)
    · have hp0 := Int.emod_nonneg (rd l (i : Int)) (show (200 : Int) ≠ 0 by omega)
      have hp1 := Int.emod_lt_of_pos (rd l (i : Int)) (show (0 : Int) < 200 by omega)
      rw [if_pos c, if_pos (by omega), picked_eq _ _ (by decide) (by decide), Option.bind_some, if_pos (by omega), wrap64_id (x := (i : Int) + 1) (by omega) (by omega), wrap64_id (x := 1 + rd l (i : Int) % 200) (by omega) (by omega)]
      refine ih (i + 1) k _ (by omega) (by omega) (by rw [List.length_set]; exact h3) ?_
      intro n hn
      rcases List.mem_or_eq_of_mem_set hn with h | h
      · exact h4 n h
      · omega
    · rw [if_neg c]
      exact ⟨x, rfl, h3, h4⟩
theorem quanta_eq (k : Nat) (l : List Int) (hk : 10 ≤ k) : ∃ q, packthreadkeep_Quanta.f k l = some q ∧ q.length = 3 ∧ ∀ n, n ∈ q → 1 ≤ n ∧ n ≤ 200 := by
  unfold packthreadkeep_Quanta.f
  refine quanta_l0 l 3 0 k _ (by omega) (by omega) rfl ?_
  intro n hn
  simp at hn
  omega
theorem play_len : ∀ (l : List S50) (fl : List Fl) (tn : List Int) (out res : List S52), playF l fl tn out = some res → res.length = out.length + l.length
  | [], fl, tn, out, res, h => by
    rw [playF] at h
    injection h with h
    subst h
    rfl
  | a :: l, fl, tn, out, res, h => by
    rw [playF] at h
    by_cases c : 0 < a.f1
    · rw [if_pos c] at h
      rcases hc : comesO fl tn a with _ | r
      · rw [hc] at h; exact absurd h (by simp)
      · rw [hc] at h
        have := play_len l _ _ _ _ h
        rw [this, List.length_append, List.length_cons, List.length_cons, List.length_nil]
        omega
    · rw [if_neg c] at h
      by_cases d : a.f1 < 0
      · rw [if_pos d] at h
        have := play_len l _ _ _ _ h
        rw [this, List.length_append, List.length_cons, List.length_cons, List.length_nil]
        omega
      · rw [if_neg d] at h
        rcases hc : sendsO fl tn with _ | r
        · rw [hc] at h; exact absurd h (by simp)
        · rw [hc] at h
          have := play_len l _ _ _ _ h
          rw [this, List.length_append, List.length_cons, List.length_cons, List.length_nil]
          omega
theorem one_eq : fair_Play.f [3] [(⟨0, 7⟩ : S50), (⟨0, 0⟩ : S50)] = some ([⟨0, 0, 0⟩, ⟨0, 0, 7⟩], 0) := by
  have h0 := Inv.start [3] (by simp) (by intro n hn; simp at hn; omega)
  obtain ⟨fl1, tn1, g1, g2, g3, g4⟩ := comesO_spec h0 (by omega) 0 7 (by simp) (by omega) (by omega) (by simp)
  have hw0 : (fl1.getD 0 zFl).ws = [7] := by rw [g3 0, if_pos rfl]; rfl
  have hl1 : fl1.length = 1 := by rw [g2]; rfl
  have hne : tn1 ≠ [] := by
    have := (g4.mem (0 : Int)).2 ⟨0, rfl, by omega, by rw [hw0]; simp⟩
    intro e
    rw [e] at this
    simp at this
  obtain ⟨i, s, r, fl2, tn2, k1, k2, k3, k4, _⟩ := sendsO_spec g4 (by omega) hne
  obtain rfl : i = 0 := by omega
  rw [hw0] at k4
  injection k4 with k4 _
  subst k4
  unfold fair_Play.f
  rw [if_pos ⟨by simp, by simp, by simp, by intro n hn; simp at hn; omega⟩]
  have : playF [(⟨0, 7⟩ : S50), (⟨0, 0⟩ : S50)] ([3].map fun n => (⟨n, [], 0, false⟩ : Fl)) [] [] = some [⟨0, 0, 0⟩, ⟨0, 0, 7⟩] := by
    rw [playF, if_pos (by decide)]
    rw [show comesO ([3].map fun n => (⟨n, [], 0, false⟩ : Fl)) [] ⟨0, 7⟩ = _ from g1]
    show playF [⟨0, 0⟩] fl1 tn1 _ = _
    rw [playF, if_neg (by decide), if_neg (by decide), k1]
    rfl
  rw [this]
theorem lined_eq (q : List Int) (l : List S50) (res : List S52) (hq : q.length = 3) (hg : ∀ n, n ∈ q → 1 ≤ n ∧ n ≤ 1500) (hl : l.length ≤ 300) (h : playF l (q.map fun n => ⟨n, [], 0, false⟩) [] [] = some res) : packthreadkeep_lined.f q l = some (res, true) := by
  have hlen := play_len l _ _ _ _ h
  unfold packthreadkeep_lined.f
  rw [if_pos (by rw [List.length_nil]; omega), if_pos (by rw [List.length_nil]; omega), List.nil_append, List.nil_append]
  have hp : fair_Play.f q l = some (res, 0) := by
    unfold fair_Play.f
    rw [if_pos ⟨by omega, by omega, hl, hg⟩, h]
  rw [hp, Option.bind_some, one_eq, Option.bind_some, if_pos rfl]
  show (if ((res.length : Nat) : Int) = (l.length : Int) then _ else _) = _
  rw [if_pos (by rw [hlen]; simp), if_pos rfl]
  rfl

def FeedOk (a : S50) : Prop := (a.f0 = 0 ∧ a.f1 = 0) ∨ ∃ i : Nat, a.f0 = (i : Int) ∧ i < 3 ∧ 1 ≤ a.f1 ∧ a.f1 ≤ 150
theorem feeds_l0 (l : List Int) (n : Nat) (hn : n ≤ 1000) : ∀ (m i k : Nat) (x : List S50), i + m = n → 2 * m + 2 ≤ k → x.length = i → (∀ a, a ∈ x → FeedOk a) → ∃ fs, packthreadkeep_Feeds.l0 k l (n : Int) x (i : Int) = some fs ∧ fs.length ≤ n ∧ ∀ a, a ∈ fs → FeedOk a := by
  intro m
  induction m with
  | zero =>
    intro i k x h1 h2 h3 h4
    obtain ⟨k, rfl⟩ : ∃ q, k = q + 2 := ⟨k - 2, by omega⟩
    have hj : packthreadkeep_Feeds.j1 (k + 1) l (n : Int) x (i : Int) false = some x := by rw [packthreadkeep_Feeds.j1, if_neg (by decide)]
    refine ⟨x, ?_, by omega, h4⟩
    rw [packthreadkeep_Feeds.l0, decide_eq_false (by omega), hj]
    split <;> rfl
  | succ m ih =>
    intro i k x h1 h2 h3 h4
    obtain ⟨k, rfl⟩ : ∃ q, k = q + 2 := ⟨k - 2, by omega⟩
    rw [packthreadkeep_Feeds.l0]
    by_cases c : (i : Int) < (l.length : Int)
    · have a0 := Int.emod_nonneg (wrap64 (Int.tdiv (rd l (i : Int)) 7)) (show (3 : Int) ≠ 0 by omega)
      have a1 := Int.emod_lt_of_pos (wrap64 (Int.tdiv (rd l (i : Int)) 7)) (show (0 : Int) < 3 by omega)
      have b0 := Int.emod_nonneg (wrap64 (Int.tdiv (rd l (i : Int)) 21)) (show (150 : Int) ≠ 0 by omega)
      have b1 := Int.emod_lt_of_pos (wrap64 (Int.tdiv (rd l (i : Int)) 21)) (show (0 : Int) < 150 by omega)
      rw [if_pos c, decide_eq_true (show (i : Int) < (n : Int) by omega), packthreadkeep_Feeds.j1, if_pos rfl, if_pos (by omega), if_pos c, picked_eq _ _ (by decide) (by decide), Option.bind_some]
      split
      · rw [picked_eq _ _ (by decide) (by decide), Option.bind_some, picked_eq _ _ (by decide) (by decide), Option.bind_some, if_pos (by omega), wrap64_id (x := (i : Int) + 1) (by omega) (by omega), wrap64_id (x := 1 + _ % 150) (by omega) (by omega)]
        refine ih (i + 1) k _ (by omega) (by omega) (by rw [List.length_append, h3]; rfl) (fun a ha => ?_)
        rcases List.mem_append.1 ha with ha | ha
        · exact h4 a ha
        · rw [List.mem_singleton] at ha
          subst ha
          exact .inr ⟨(wrap64 (Int.tdiv (rd l (i : Int)) 7) % 3).toNat, by show wrap64 (Int.tdiv (rd l (i : Int)) 7) % 3 = (((wrap64 (Int.tdiv (rd l (i : Int)) 7) % 3).toNat : Nat) : Int); omega, by omega, by show 1 ≤ 1 + _; omega, by show 1 + _ ≤ 150; omega⟩
      · rw [if_pos (by omega), wrap64_id (x := (i : Int) + 1) (by omega) (by omega)]
        refine ih (i + 1) k _ (by omega) (by omega) (by rw [List.length_append, h3]; rfl) (fun a ha => ?_)
        rcases List.mem_append.1 ha with ha | ha
        · exact h4 a ha
        · rw [List.mem_singleton] at ha
          subst ha
          exact .inl ⟨rfl, rfl⟩
    · have hj : packthreadkeep_Feeds.j1 (k + 1) l (n : Int) x (i : Int) false = some x := by rw [packthreadkeep_Feeds.j1, if_neg (by decide)]
      rw [if_neg c, hj]
      exact ⟨x, rfl, by omega, h4⟩
theorem feeds_eq (k : Nat) (l : List Int) (n : Nat) (hn : n ≤ 1000) (hk : 3000 ≤ k) : ∃ fs, packthreadkeep_Feeds.f k l (n : Int) = some fs ∧ fs.length ≤ n ∧ ∀ a, a ∈ fs → FeedOk a := by
  unfold packthreadkeep_Feeds.f
  exact feeds_l0 l n hn n 0 k [] (by omega) (by omega) rfl (fun a ha => by simp at ha)

def sumI : List Int → Int
  | [] => 0
  | a :: l => a + sumI l
theorem sumI_snoc (z : Int) : ∀ (l : List Int), sumI (l ++ [z]) = sumI l + z
  | [] => by show z + 0 = 0 + z; omega
  | a :: l => by
    show a + sumI (l ++ [z]) = a + sumI l + z
    rw [sumI_snoc z l]; omega
def smW (fl : List Fl) (j : Nat) : Int := sumI (fl.getD j zFl).ws
def wcW (fl : List Fl) : Nat := (fl.getD 0 zFl).ws.length + (fl.getD 1 zFl).ws.length + (fl.getD 2 zFl).ws.length
structure FaGood (B : Int) (c : (Int × Int × Int) × (Int × Int × Int)) (fl : List Fl) : Prop where
  e0 : c.1.1 = c.2.1 + smW fl 0
  e1 : c.1.2.1 = c.2.2.1 + smW fl 1
  e2 : c.1.2.2 = c.2.2.2 + smW fl 2
  b0 : 0 ≤ c.1.1 ∧ c.1.1 ≤ B ∧ 0 ≤ c.2.1 ∧ c.2.1 ≤ B
  b1 : 0 ≤ c.1.2.1 ∧ c.1.2.1 ≤ B ∧ 0 ≤ c.2.2.1 ∧ c.2.2.1 ≤ B
  b2 : 0 ≤ c.1.2.2 ∧ c.1.2.2 ≤ B ∧ 0 ≤ c.2.2.2 ∧ c.2.2.2 ≤ B
theorem FaGood.more {B : Int} {c : (Int × Int × Int) × (Int × Int × Int)} {fl : List Fl} (h : FaGood B c fl) : FaGood (B + 1500) c fl := by
  obtain ⟨a, b, d, e, f, g⟩ := h
  exact ⟨a, b, d, by omega, by omega, by omega⟩
theorem fa_mk {B a0 a1 a2 b0 b1 b2 : Int} {fl : List Fl} (e0 : a0 = b0 + smW fl 0) (e1 : a1 = b1 + smW fl 1) (e2 : a2 = b2 + smW fl 2) (d0 : 0 ≤ a0 ∧ a0 ≤ B ∧ 0 ≤ b0 ∧ b0 ≤ B) (d1 : 0 ≤ a1 ∧ a1 ≤ B ∧ 0 ≤ b1 ∧ b1 ≤ B) (d2 : 0 ≤ a2 ∧ a2 ≤ B ∧ 0 ≤ b2 ∧ b2 ≤ B) : FaGood B ((a0, a1, a2), (b0, b1, b2)) fl := ⟨e0, e1, e2, d0, d1, d2⟩
theorem wc_none {m : Nat} {fl : List Fl} (h : Inv m fl []) (hl : fl.length = 3) : ∀ j, j < 3 → (fl.getD j zFl).ws = [] := by
  intro j hj
  rcases hw : (fl.getD j zFl).ws with _ | ⟨s, r⟩
  · rfl
  · have := (h.mem (j : Int)).2 ⟨j, rfl, by omega, by rw [hw]; simp⟩
    simp at this
theorem fa_one {m : Nat} {fl : List Fl} {tn : List Int} (h : Inv m fl tn) (hl : fl.length = 3) (hm : m + 1 ≤ 1000) (a : S50) (ha : FeedOk a) (c : (Int × Int × Int) × (Int × Int × Int)) (B : Int) (hB0 : 0 ≤ B) (hB : B ≤ 1000000) (hg : FaGood B c fl) :
    ∃ (o : S52) (fl' : List Fl) (tn' : List Int), (∀ rest out, playF (a :: rest) fl tn out = playF rest fl' tn' (out ++ [o])) ∧ Inv (m + 1) fl' tn' ∧ fl'.length = 3 ∧ 0 ≤ o.f1 ∧ o.f1 ≤ 2 ∧ FaGood (B + 1500) (faStep c a o) fl' ∧ wcW fl' ≤ wcW fl + 1 ∧ (a.f1 = 0 → wcW fl' ≤ wcW fl - 1) := by
  obtain ⟨⟨x0, x1, x2⟩, ⟨y0, y1, y2⟩⟩ := c
  rcases ha with ⟨e0, e1⟩ | ⟨i, e0, e1, e2, e3⟩
  · have hp : ∀ rest out, playF (a :: rest) fl tn out = (sendsO fl tn).bind fun r => playF rest r.1 r.2.1 (out ++ [r.2.2]) := fun rest out => by
      rw [playF, if_neg (by omega), if_neg (by omega)]
      cases sendsO fl tn <;> rfl
    by_cases d : tn = []
    · subst d
      refine ⟨⟨7, 0, 0⟩, fl, [], fun rest out => by rw [hp, sendsO_none h]; rfl, h.more (by omega), hl, by decide, by decide, ?_, by omega, fun _ => ?_⟩
      · have : faStep ((x0, x1, x2), (y0, y1, y2)) a ⟨7, 0, 0⟩ = ((x0, x1, x2), (y0, y1, y2)) := by
          unfold faStep
          rw [if_neg (fun z => absurd z.2 (by decide)), if_neg (fun z => absurd z.2 (by decide))]
        rw [this]
        exact hg.more
      · have := wc_none h hl
        unfold wcW
        rw [this 0 (by omega), this 1 (by omega), this 2 (by omega)]
        simp
    · obtain ⟨i, s, r, fl', tn', g1, g2, g3, g4, g5, g6, g7⟩ := sendsO_spec h (by omega) d
      have hs : 1 ≤ s ∧ s ≤ 1500 := (h.ok _ (getD_mem fl i zFl g3)).2.2.1 s (by rw [g4]; exact List.mem_cons_self ..)
      have hst : faStep ((x0, x1, x2), (y0, y1, y2)) a ⟨0, (i : Int), s⟩ = ((x0, x1, x2), (if (i : Int) = 0 then (wrap64 (y0 + s), y1, y2) else if (i : Int) = 1 then (y0, wrap64 (y1 + s), y2) else (y0, y1, wrap64 (y2 + s)))) := by
        unfold faStep
        rw [if_neg (fun z => by have := z.1; omega), if_pos ⟨e1, rfl⟩]
      obtain ⟨k0, k1, k2, k3, k4, k5⟩ := hg
      simp only at k0 k1 k2 k3 k4 k5
      have q : ∀ j, smW fl' j = if j = i then sumI r else smW fl j := fun j => by unfold smW; rw [g6 j]; split <;> rfl
      have qi : smW fl i = s + sumI r := by unfold smW; rw [g4]; rfl
      have w : ∀ j, (fl'.getD j zFl).ws.length = if j = i then r.length else (fl.getD j zFl).ws.length := fun j => by rw [g6 j]; split <;> rfl
      have wi : (fl.getD i zFl).ws.length = r.length + 1 := by rw [g4]; rfl
      refine ⟨⟨0, (i : Int), s⟩, fl', tn', fun rest out => by rw [hp, g1]; rfl, g7.more (by omega), by omega, by show 0 ≤ (i : Int); omega, by show (i : Int) ≤ 2; omega, ?_, ?_, fun _ => ?_⟩
      · rw [hst]
        have hi3 : i = 0 ∨ i = 1 ∨ i = 2 := by omega
        have q0 := q 0
        have q1 := q 1
        have q2 := q 2
        rcases hi3 with rfl | rfl | rfl
        · rw [if_pos rfl] at q0
          rw [if_neg (by omega)] at q1 q2
          rw [if_pos (by rfl), wrap64_id (x := y0 + s) (by omega) (by omega)]
          exact fa_mk (by omega) (by omega) (by omega) (by omega) (by omega) (by omega)
        · rw [if_pos rfl] at q1
          rw [if_neg (by omega)] at q0 q2
          rw [if_neg (by decide), if_pos (by rfl), wrap64_id (x := y1 + s) (by omega) (by omega)]
          exact fa_mk (by omega) (by omega) (by omega) (by omega) (by omega) (by omega)
        · rw [if_pos rfl] at q2
          rw [if_neg (by omega)] at q0 q1
          rw [if_neg (by decide), if_neg (by decide), wrap64_id (x := y2 + s) (by omega) (by omega)]
          exact fa_mk (by omega) (by omega) (by omega) (by omega) (by omega) (by omega)
      · unfold wcW
        have w0 := w 0
        have w1 := w 1
        have w2 := w 2
        have hi3 : i = 0 ∨ i = 1 ∨ i = 2 := by omega
        rcases hi3 with rfl | rfl | rfl
        · rw [if_pos rfl] at w0
          rw [if_neg (by omega)] at w1 w2
          omega
        · rw [if_pos rfl] at w1
          rw [if_neg (by omega)] at w0 w2
          omega
        · rw [if_pos rfl] at w2
          rw [if_neg (by omega)] at w0 w1
          omega
      · unfold wcW
        have w0 := w 0
        have w1 := w 1
        have w2 := w 2
        have hi3 : i = 0 ∨ i = 1 ∨ i = 2 := by omega
        rcases hi3 with rfl | rfl | rfl
        · rw [if_pos rfl] at w0
          rw [if_neg (by omega)] at w1 w2
          omega
        · rw [if_pos rfl] at w1
          rw [if_neg (by omega)] at w0 w2
          omega
        · rw [if_pos rfl] at w2
          rw [if_neg (by omega)] at w0 w1
          omega
  · have hp : ∀ rest out, playF (a :: rest) fl tn out = (comesO fl tn a).bind fun r => playF rest r.1 r.2.1 (out ++ [r.2.2]) := fun rest out => by
      rw [playF, if_pos (by omega)]
      cases comesO fl tn a <;> rfl
    have ea : a = ⟨(i : Int), a.f1⟩ := by rw [← e0]
    by_cases d : (fl.getD i zFl).ws.length = 40
    · have g := comesO_full h (by omega) i a.f1 (by omega) (by omega) d
      rw [← ea] at g
      refine ⟨⟨9, 0, 0⟩, fl, tn, fun rest out => by rw [hp, g]; rfl, h.more (by omega), hl, by decide, by decide, ?_, by omega, fun z => by omega⟩
      have : faStep ((x0, x1, x2), (y0, y1, y2)) a ⟨9, 0, 0⟩ = ((x0, x1, x2), (y0, y1, y2)) := by
        unfold faStep
        rw [if_neg (fun z => absurd z.2 (by decide)), if_neg (fun z => absurd z.2 (by decide))]
      rw [this]
      exact hg.more
    · obtain ⟨fl', tn', g1, g2, g3, g4⟩ := comesO_spec h (by omega) i a.f1 (by omega) (by omega) (by omega) d
      rw [← ea] at g1
      have hst : faStep ((x0, x1, x2), (y0, y1, y2)) a ⟨0, 0, 0⟩ = ((if a.f0 = 0 then (wrap64 (x0 + a.f1), x1, x2) else if a.f0 = 1 then (x0, wrap64 (x1 + a.f1), x2) else (x0, x1, wrap64 (x2 + a.f1))), (y0, y1, y2)) := by
        unfold faStep
        rw [if_pos ⟨by omega, rfl⟩]
      obtain ⟨k0, k1, k2, k3, k4, k5⟩ := hg
      simp only at k0 k1 k2 k3 k4 k5
      have q : ∀ j, smW fl' j = if j = i then smW fl i + a.f1 else smW fl j := fun j => by
        unfold smW; rw [g3 j]; split
        · exact sumI_snoc _ _
        · rfl
      have w : ∀ j, (fl'.getD j zFl).ws.length = if j = i then (fl.getD i zFl).ws.length + 1 else (fl.getD j zFl).ws.length := fun j => by
        rw [g3 j]; split
        · rw [List.length_append]; rfl
        · rfl
      refine ⟨⟨0, 0, 0⟩, fl', tn', fun rest out => by rw [hp, g1]; rfl, g4, by omega, by decide, by decide, ?_, ?_, fun z => by omega⟩
      · rw [hst]
        have hi3 : i = 0 ∨ i = 1 ∨ i = 2 := by omega
        have q0 := q 0
        have q1 := q 1
        have q2 := q 2
        rcases hi3 with rfl | rfl | rfl
        · rw [if_pos rfl] at q0
          rw [if_neg (by omega)] at q1 q2
          rw [if_pos (by rw [e0]; rfl), wrap64_id (x := x0 + a.f1) (by omega) (by omega)]
          exact fa_mk (by omega) (by omega) (by omega) (by omega) (by omega) (by omega)
        · rw [if_pos rfl] at q1
          rw [if_neg (by omega)] at q0 q2
          rw [if_neg (by rw [e0]; decide), if_pos (by rw [e0]; rfl), wrap64_id (x := x1 + a.f1) (by omega) (by omega)]
          exact fa_mk (by omega) (by omega) (by omega) (by omega) (by omega) (by omega)
        · rw [if_pos rfl] at q2
          rw [if_neg (by omega)] at q0 q1
          rw [if_neg (by rw [e0]; decide), if_neg (by rw [e0]; decide), wrap64_id (x := x2 + a.f1) (by omega) (by omega)]
          exact fa_mk (by omega) (by omega) (by omega) (by omega) (by omega) (by omega)
      · unfold wcW
        have w0 := w 0
        have w1 := w 1
        have w2 := w 2
        have hi3 : i = 0 ∨ i = 1 ∨ i = 2 := by omega
        rcases hi3 with rfl | rfl | rfl
        · rw [if_pos rfl] at w0
          rw [if_neg (by omega)] at w1 w2
          omega
        · rw [if_pos rfl] at w1
          rw [if_neg (by omega)] at w0 w2
          omega
        · rw [if_pos rfl] at w2
          rw [if_neg (by omega)] at w0 w1
          omega
theorem fa_many : ∀ (l : List S50) (m : Nat) (fl : List Fl) (tn : List Int) (c : (Int × Int × Int) × (Int × Int × Int)) (B : Int), Inv m fl tn → fl.length = 3 → m + l.length ≤ 1000 → 0 ≤ B → B + 1500 * (l.length : Int) ≤ 1000000 → FaGood B c fl → (∀ a, a ∈ l → FeedOk a) →
    ∃ (rs : List S52) (fl' : List Fl) (tn' : List Int) (c' : (Int × Int × Int) × (Int × Int × Int)), rs.length = l.length ∧ (∀ o, o ∈ rs → 0 ≤ o.f1 ∧ o.f1 ≤ 2) ∧ (∀ rest out, playF (l ++ rest) fl tn out = playF rest fl' tn' (out ++ rs)) ∧ (∀ lr rr, faGo (l ++ lr) (rs ++ rr) c = faGo lr rr c') ∧ Inv (m + l.length) fl' tn' ∧ fl'.length = 3 ∧ FaGood (B + 1500 * (l.length : Int)) c' fl' ∧ wcW fl' ≤ wcW fl + l.length ∧ ((∀ a, a ∈ l → a.f1 = 0) → wcW fl' ≤ wcW fl - l.length)
  | [], m, fl, tn, c, B, h1, h2, h3, h4, h5, h6, h7 => ⟨[], fl, tn, c, rfl, fun o ho => by simp at ho, fun rest out => by rw [List.append_nil]; rfl, fun lr rr => rfl, h1, h2, by simpa using h6, Nat.le_refl _, fun _ => Nat.le_refl _⟩
  | a :: l, m, fl, tn, c, B, h1, h2, h3, h4, h5, h6, h7 => by
    rw [List.length_cons] at h3 h5
    obtain ⟨o, fl1, tn1, g1, g2, g3, g4, g5, g6, g7, g8⟩ := fa_one h1 h2 (by omega) a (h7 a (List.mem_cons_self ..)) c B h4 (by omega) h6
    obtain ⟨rs, fl2, tn2, c2, k1, k2, k3, k4, k5, k6, k7, k8, k9⟩ := fa_many l (m + 1) fl1 tn1 (faStep c a o) (B + 1500) g2 g3 (by omega) (by omega) (by omega) g6 (fun b hb => h7 b (List.mem_cons_of_mem _ hb))
    refine ⟨o :: rs, fl2, tn2, c2, by rw [List.length_cons, List.length_cons, k1], fun o' ho => ?_, fun rest out => by rw [List.cons_append, g1, k3, List.append_assoc]; rfl, fun lr rr => by rw [List.cons_append, List.cons_append, faGo]; exact k4 lr rr, by rw [List.length_cons, show m + (l.length + 1) = m + 1 + l.length by omega]; exact k5, k6, ?_, by rw [List.length_cons]; omega, fun hz => ?_⟩
    · rcases List.mem_cons.1 ho with rfl | ho
      · exact ⟨g4, g5⟩
      · exact k2 o' ho
    · rw [List.length_cons, show B + 1500 * ((l.length + 1 : Nat) : Int) = B + 1500 + 1500 * (l.length : Int) by omega]
      exact k7
    · have := g8 (hz a (List.mem_cons_self ..))
      have := k9 (fun b hb => hz b (List.mem_cons_of_mem _ hb))
      rw [List.length_cons]
      omega
theorem FairAll : packthreadkeep_FairAll.Pure := by
  intro l0 l1 _ _ _ _ _ _
  obtain ⟨k, hk⟩ : ∃ k, 3000 ≤ k := ⟨3000, Nat.le_refl _⟩
  obtain ⟨fs, f1, f2, f3⟩ := feeds_eq k l1 120 (by omega) hk
  obtain ⟨q, q1, q2, q3⟩ := quanta_eq k l0 (by omega)
  have hq : ∀ n, n ∈ q → 1 ≤ n ∧ n ≤ 1500 := fun n hn => by have := q3 n hn; omega
  have h0 := Inv.start q (by omega) hq
  have hws0 : ∀ j, ((q.map fun n => (⟨n, [], 0, false⟩ : Fl)).getD j zFl).ws = [] := fun j => by
    rw [List.getD_eq_getElem?_getD, List.getElem?_map]
    rcases q[j]? with _ | v <;> rfl
  have hgood : FaGood 0 ((0, 0, 0), (0, 0, 0)) (q.map fun n => (⟨n, [], 0, false⟩ : Fl)) := by
    have hs : ∀ j, smW (q.map fun n => (⟨n, [], 0, false⟩ : Fl)) j = 0 := fun j => by unfold smW; rw [hws0]; rfl
    exact ⟨by rw [hs]; rfl, by rw [hs]; rfl, by rw [hs]; rfl, by decide, by decide, by decide⟩
  obtain ⟨rs, fl1, tn1, c1, k1, k2, k3, k4, k5, k6, k7, k8, _⟩ := fa_many fs 0 _ [] _ 0 h0 (by rw [List.length_map]; exact q2) (by omega) (by omega) (by omega) hgood f3
  have hz0 : ∀ a, a ∈ List.replicate 120 (⟨0, 0⟩ : S50) → a = ⟨0, 0⟩ := fun a ha => List.eq_of_mem_replicate ha
  obtain ⟨rs2, fl2, tn2, c2, p1, p2, p3, p4, p5, p6, p7, _, p9⟩ := fa_many (List.replicate 120 (⟨0, 0⟩ : S50)) (0 + fs.length) fl1 tn1 c1 _ k5 k6 (by rw [List.length_replicate]; omega) (by omega) (by rw [List.length_replicate]; omega) k7 (fun a ha => by rw [hz0 a ha]; exact .inl ⟨rfl, rfl⟩)
  have hw := p9 (fun a ha => by rw [hz0 a ha])
  have hw0 : wcW (q.map fun n => (⟨n, [], 0, false⟩ : Fl)) = 0 := by unfold wcW; rw [hws0, hws0, hws0]; rfl
  rw [List.length_replicate] at hw p1
  have hwz : wcW fl2 = 0 := by omega
  unfold wcW at hwz
  have hnil : ∀ j, j < 3 → (fl2.getD j zFl).ws = [] := fun j hj => by
    have : j = 0 ∨ j = 1 ∨ j = 2 := by omega
    rcases this with rfl | rfl | rfl <;> exact List.eq_nil_of_length_eq_zero (by omega)
  have htn : tn2 = [] := by
    rcases tn2 with _ | ⟨t, tr⟩
    · rfl
    · obtain ⟨j, _, g2, g3⟩ := (p5.mem t).1 (List.mem_cons_self ..)
      exact absurd (hnil j (by omega)) g3
  subst htn
  have hrep : List.replicate 121 (⟨0, 0⟩ : S50) = List.replicate 120 (⟨0, 0⟩ : S50) ++ [⟨0, 0⟩] := List.replicate_succ'
  have hplay : playF (fs ++ List.replicate 121 (⟨0, 0⟩ : S50)) (q.map fun n => (⟨n, [], 0, false⟩ : Fl)) [] [] = some (rs ++ rs2 ++ [⟨7, 0, 0⟩]) := by
    rw [hrep, k3, p3, playF, if_neg (by decide), if_neg (by decide), sendsO_none p5]
    rfl
  have hgo : faGo (fs ++ List.replicate 121 (⟨0, 0⟩ : S50)) (rs ++ rs2 ++ [⟨7, 0, 0⟩]) ((0, 0, 0), (0, 0, 0)) = c2 := by
    rw [hrep, List.append_assoc, k4, p4]
    rfl
  have hlen : (rs ++ rs2 ++ [(⟨7, 0, 0⟩ : S52)]).length = fs.length + 121 := by simp; omega
  refine ⟨k, fs, q, rs ++ rs2 ++ [⟨7, 0, 0⟩], f1, f2, q1, fun j hj => ?_, hlen, ?_, ?_, lined_eq q _ _ q2 hq (by simp; omega) hplay⟩
  · have ha : FeedOk (rd_T50 (fs ++ List.replicate 121 (⟨0, 0⟩ : S50)) (j : Int)) := by
      unfold rd_T50
      rw [Int.toNat_natCast, List.getD_eq_getElem?_getD]
      have hj2 : j < (fs ++ List.replicate 121 (⟨0, 0⟩ : S50)).length := by simp; omega
      rw [List.getElem?_eq_getElem hj2]
      rcases List.mem_append.1 (List.getElem_mem hj2) with h | h
      · exact f3 _ h
      · show FeedOk (_)
        rw [Option.getD_some, List.eq_of_mem_replicate h]
        exact .inl ⟨rfl, rfl⟩
    have ho : 0 ≤ (rd_T52 (rs ++ rs2 ++ [⟨7, 0, 0⟩]) (j : Int)).f1 ∧ (rd_T52 (rs ++ rs2 ++ [⟨7, 0, 0⟩]) (j : Int)).f1 ≤ 2 := by
      unfold rd_T52
      rw [Int.toNat_natCast, List.getD_eq_getElem?_getD, List.getElem?_eq_getElem (by rw [hlen]; exact hj), Option.getD_some]
      rcases List.mem_append.1 (List.getElem_mem (l := rs ++ rs2 ++ [(⟨7, 0, 0⟩ : S52)]) (n := j) (by rw [hlen]; exact hj)) with h | h
      · rcases List.mem_append.1 h with h | h
        · exact k2 _ h
        · exact p2 _ h
      · rw [List.mem_singleton.1 h]
        exact ⟨by decide, by decide⟩
    rcases ha with ⟨e, _⟩ | ⟨i, e, e', _⟩
    · rw [e]; exact ⟨by decide, by decide, ho.1, ho.2⟩
    · rw [e]; exact ⟨by omega, by omega, ho.1, ho.2⟩
  · unfold rd_T52
    rw [show ((fs.length : Int) + 120).toNat = (rs ++ rs2).length by simp; omega, List.getD_eq_getElem?_getD, List.getElem?_append_right (Nat.le_refl _)]
    simp
  · rw [hgo]
    obtain ⟨a0, a1, a2, _, _, _⟩ := p7
    have hs : ∀ j, j < 3 → smW fl2 j = 0 := fun j hj => by unfold smW; rw [hnil j hj]; rfl
    rw [hs 0 (by omega)] at a0
    rw [hs 1 (by omega)] at a1
    rw [hs 2 (by omega)] at a2
    obtain ⟨⟨x0, x1, x2⟩, ⟨y0, y1, y2⟩⟩ := c2
    simp only at a0 a1 a2 ⊢
    rw [a0, a1, a2, Int.add_zero, Int.add_zero, Int.add_zero]

end Go.Proofs.Ytlgehakaedokeaa.Pure
