/- Proved: for every input the law FairScale answers true: with all twice as long, and twice the quanta, the same flows are sent of, in the same order. Condition: none (every row of numbers). -/
import Derived.Test.YtlgehakaedokeaaPFairScalex4
namespace Go.Proofs.Ytlgehakaedokeaa.Pure
open Go.RowKit Go.Proofs.Ytlgehakaedokeaa.PFairScale Go.Proofs.YtlgehakaedokeaaW.PrintWords Go.Proofs.YtlgehakaedokeaaW.PrintLast
set_option linter.unusedVariables false

theorem wrap64_id {x : Int} (h0 : -9223372036854775808 ≤ x) (h1 : x ≤ 9223372036854775807) : wrap64 x = x := by unfold wrap64; omega

theorem picked_eq (a n : Int) (h0 : 0 < n) (h1 : n ≤ 1000000000000) : packthreadkeep_Picked.f a n = some (a % n) := by
  unfold packthreadkeep_Picked.f
  rw [if_neg (by omega)]
  have hm := Int.tmod_eq_emod (a := a) (b := n)
  have hlo := Int.emod_nonneg a (show n ≠ 0 by omega)
  have hhi := Int.emod_lt_of_pos a h0
  by_cases hc : 0 ≤ a ∨ n ∣ a
  · rw [if_pos hc] at hm
    have e : a.tmod n = a % n := by rw [hm]; simp
    rw [e, if_neg (by omega)]
  · rw [if_neg hc] at hm
    have e : a.tmod n = a % n - n := by rw [hm]; congr 1; omega
    rw [e, if_pos (by omega), wrap64_id (by omega) (by omega)]
    congr 1; omega

def FlOk (x : Fl) : Prop := 1 ≤ x.qu ∧ x.qu ≤ 1500 ∧ (∀ s, s ∈ x.ws → 1 ≤ s ∧ s ≤ 1500) ∧ x.ws.length ≤ 40 ∧ 0 ≤ x.de ∧ x.de ≤ 3000 ∧ (x.fd = false → x.de ≤ 1500) ∧ (x.ws = [] → x.de = 0 ∧ x.fd = false)
structure Inv (m : Nat) (fl : List Fl) (tn : List Int) : Prop where
  ok : ∀ x, x ∈ fl → FlOk x
  len : fl.length ≤ 6
  mem : ∀ t, t ∈ tn ↔ ∃ i : Nat, t = (i : Int) ∧ i < fl.length ∧ (fl.getD i zFl).ws ≠ []
  nod : tn.Nodup
  tl : tn.length ≤ m
/-- how far a flow is from being sent of -/
def mF (x : Fl) : Nat := match x.ws with | [] => 0 | s :: _ => 2 * (s - x.de).toNat + (if x.fd = true then 1 else 0)
def MF (fl : List Fl) : Nat := (fl.map mF).sum
theorem sum_set (f : Fl → Nat) (y z : Fl) : ∀ (l : List Fl) (i : Nat), i < l.length → ((l.set i y).map f).sum + f (l.getD i z) = (l.map f).sum + f y
  | [], i, h => by simp at h
  | a :: l, 0, h => by simp; omega
  | a :: l, i + 1, h => by
    have := sum_set f y z l i (by simpa using h)
    simp only [List.set_cons_succ, List.map_cons, List.sum_cons, List.getD_cons_succ]
    omega
theorem getD_set2 (l : List Fl) (i j : Nat) (y z : Fl) (hi : i < l.length) : (l.set i y).getD j z = if j = i then y else l.getD j z := by
  rw [List.getD_eq_getElem?_getD, List.getElem?_set]
  by_cases c : j = i
  · subst c
    rw [if_pos rfl, if_pos hi, if_pos rfl]
    rfl
  · rw [if_neg (fun h => c h.symm), if_neg c, List.getD_eq_getElem?_getD]
theorem getD_mem (l : List Fl) (i : Nat) (z : Fl) (hi : i < l.length) : l.getD i z ∈ l := by
  rw [List.getD_eq_getElem?_getD, List.getElem?_eq_getElem hi]
  exact List.getElem_mem hi
theorem set_ok {fl : List Fl} {y : Fl} (h : ∀ x, x ∈ fl → FlOk x) (hy : FlOk y) (i : Nat) : ∀ x, x ∈ fl.set i y → FlOk x := fun x hx => by
  rcases List.mem_or_eq_of_mem_set hx with h1 | h1
  · exact h x h1
  · rw [h1]; exact hy
theorem MF_le {fl : List Fl} : (∀ x, x ∈ fl → FlOk x) → MF fl ≤ 3001 * fl.length := by
  induction fl with
  | nil => intro _; exact Nat.le_refl _
  | cons a l ih =>
    intro h
    have h1 := ih (fun x hx => h x (List.mem_cons_of_mem _ hx))
    have h2 := h a (List.mem_cons_self ..)
    have h3 : mF a ≤ 3001 := by
      unfold mF
      split
      · omega
      · rename_i s r hw
        have := (h2.2.2.1) s (by rw [hw]; exact List.mem_cons_self ..)
        have := h2.2.2.2.2.1
        split <;> omega
    show ((a :: l).map mF).sum ≤ _
    rw [List.map_cons, List.sum_cons, List.length_cons]
    unfold MF at h1
    omega
theorem Inv.elem {m : Nat} {fl : List Fl} {t : Int} {tr : List Int} (h : Inv m fl (t :: tr)) : ∃ (i : Nat) (s : Int) (r : List Int), t = (i : Int) ∧ i < fl.length ∧ (fl.getD i zFl).ws = s :: r ∧ FlOk (fl.getD i zFl) := by
  obtain ⟨i, h1, h2, h3⟩ := (h.mem t).1 (List.mem_cons_self ..)
  rcases hw : (fl.getD i zFl).ws with _ | ⟨s, r⟩
  · exact absurd hw h3
  · exact ⟨i, s, r, h1, h2, hw, h.ok _ (getD_mem fl i zFl h2)⟩
theorem fed_ok {x : Fl} {s : Int} {r : List Int} (h : FlOk x) (hw : x.ws = s :: r) : (fedF x).qu = x.qu ∧ (fedF x).fd = true ∧ (fedF x).de = (if x.fd = true then x.de else x.de + x.qu) ∧ 0 ≤ (fedF x).de ∧ (fedF x).de ≤ 3000 := by
  obtain ⟨h1, h2, h3, h4, h5, h6, h7, h8⟩ := h
  unfold fedF
  by_cases c : x.fd = true
  · rw [if_pos c, if_pos c]
    exact ⟨rfl, c, rfl, h5, h6⟩
  · rw [if_neg c, if_neg c]
    have h9 := h7 (by simpa using c)
    have e : wrap64 (x.de + x.qu) = x.de + x.qu := wrap64_id (by omega) (by omega)
    refine ⟨rfl, rfl, e, ?_, ?_⟩
    · show 0 ≤ wrap64 (x.de + x.qu)
      omega
    · show wrap64 (x.de + x.qu) ≤ 3000
      omega
/-- what a sending does -/
theorem sends_spec (m : Nat) : ∀ (k : Nat) (fl : List Fl) (tn : List Int), Inv m fl tn → tn ≠ [] → MF fl < k →
    ∃ (i : Nat) (s : Int) (r : List Int) (fl' : List Fl) (tn' : List Int), sendsF k fl tn = some (fl', tn', ⟨0, i, s⟩) ∧ (i : Int) ∈ tn ∧ i < fl.length ∧ (fl.getD i zFl).ws = s :: r ∧ fl'.length = fl.length ∧ (∀ j, (fl'.getD j zFl).ws = if j = i then r else (fl.getD j zFl).ws) ∧ Inv m fl' tn' := by
  intro k
  induction k with
  | zero => intro fl tn _ _ h; omega
  | succ k ih =>
    intro fl tn hI hne hM
    rcases tn with _ | ⟨t, tr⟩
    · exact absurd rfl hne
    obtain ⟨i, s, r, rfl, hi, hw, hok⟩ := hI.elem
    obtain ⟨x, hx⟩ : ∃ x, fl.getD i zFl = x := ⟨_, rfl⟩
    rw [hx] at hw hok
    obtain ⟨f1, f2, f3, f4, f5⟩ := fed_ok hok hw
    have hsr := hok.2.2.1
    have hs : 1 ≤ s ∧ s ≤ 1500 := hsr s (by rw [hw]; exact List.mem_cons_self ..)
    obtain ⟨x1, hx1⟩ : ∃ y, fedF x = y := ⟨_, rfl⟩
    have hw1 : x1.ws = s :: r := by rw [← hx1, fedF_ws]; exact hw
    rw [hx1] at f1 f2 f3 f4 f5
    rw [sendsF]
    simp only [if_pos (show (0 : Int) ≤ (i : Int) ∧ (i : Int) < fl.length by omega), Int.toNat_natCast, hx, hx1, hw1]
    have hnc := List.nodup_cons.1 hI.nod
    have hwsn : ∀ y : Fl, y.ws ≠ [] → ∀ t, (∃ j : Nat, t = (j : Int) ∧ j < fl.length ∧ (fl.getD j zFl).ws ≠ []) ↔ ∃ j : Nat, t = (j : Int) ∧ j < (fl.set i y).length ∧ ((fl.set i y).getD j zFl).ws ≠ [] := by
      intro y hy t
      constructor
      · rintro ⟨j, h1, h2, h3⟩
        refine ⟨j, h1, by rw [List.length_set]; exact h2, ?_⟩
        rw [getD_set2 _ _ _ _ _ hi]
        split
        · exact hy
        · exact h3
      · rintro ⟨j, h1, h2, h3⟩
        rw [List.length_set] at h2
        refine ⟨j, h1, h2, ?_⟩
        rw [getD_set2 _ _ _ _ _ hi] at h3
        by_cases c : j = i
        · rw [c, hx, hw]; simp
        · rw [if_neg c] at h3; exact h3
    by_cases c : s ≤ x1.de
    · rw [if_pos c]
      unfold sentF
      rw [getD_set fl i x1 zFl hi]
      simp only [hw1]
      by_cases hr : r = []
      · rw [if_pos hr]
        refine ⟨i, s, r, _, _, rfl, List.mem_cons_self .., hi, by rw [hx]; exact hw, by rw [List.length_set, List.length_set], ?_, ?_⟩
        · intro j
          rw [List.set_set, getD_set2 _ _ _ _ _ hi]
          split
          · exact hr.symm
          · rfl
        · rw [List.set_set]
          have hok2 : FlOk { x1 with ws := [], de := 0, fd := false } := ⟨by show 1 ≤ x1.qu; rw [f1]; exact hok.1, by show x1.qu ≤ 1500; rw [f1]; exact hok.2.1, fun y hy => by simp at hy, by simp, by simp, by simp, fun _ => by simp, fun _ => ⟨rfl, rfl⟩⟩
          refine ⟨set_ok hI.ok hok2 i, by rw [List.length_set]; exact hI.len, ?_, hnc.2, by have := hI.tl; rw [List.length_cons] at this; omega⟩
          intro t
          constructor
          · intro ht
            obtain ⟨j, h1, h2, h3⟩ := (hI.mem t).1 (List.mem_cons_of_mem _ ht)
            refine ⟨j, h1, by rw [List.length_set]; exact h2, ?_⟩
            rw [getD_set2 _ _ _ _ _ hi, if_neg]
            · exact h3
            · intro e
              subst e
              rw [h1] at ht
              exact hnc.1 ht
          · rintro ⟨j, h1, h2, h3⟩
            rw [List.length_set] at h2
            rw [getD_set2 _ _ _ _ _ hi] at h3
            by_cases e : j = i
            · rw [if_pos e] at h3; exact absurd rfl h3
            · rw [if_neg e] at h3
              rcases List.mem_cons.1 ((hI.mem t).2 ⟨j, h1, h2, h3⟩) with h4 | h4
              · omega
              · exact h4
      · rw [if_neg hr]
        have e : wrap64 (x1.de - s) = x1.de - s := wrap64_id (by omega) (by omega)
        rw [e]
        refine ⟨i, s, r, _, _, rfl, List.mem_cons_self .., hi, by rw [hx]; exact hw, by rw [List.length_set, List.length_set], ?_, ?_⟩
        · intro j
          rw [List.set_set, getD_set2 _ _ _ _ _ hi]
          split <;> rfl
        · rw [List.set_set]
          have hok2 : FlOk { x1 with ws := r, de := x1.de - s } := ⟨by show 1 ≤ x1.qu; rw [f1]; exact hok.1, by show x1.qu ≤ 1500; rw [f1]; exact hok.2.1, fun y hy => hsr y (by rw [hw]; exact List.mem_cons_of_mem _ hy), by have := hok.2.2.2.1; rw [hw] at this; simp at this; show r.length ≤ 40; omega, by show 0 ≤ x1.de - s; omega, by show x1.de - s ≤ 3000; omega, fun h => by rw [show x1.fd = true from f2] at h; exact absurd h (by simp), fun h => absurd h hr⟩
          exact ⟨set_ok hI.ok hok2 i, by rw [List.length_set]; exact hI.len, fun t => (hI.mem t).trans (hwsn _ hr t), hI.nod, hI.tl⟩
    · rw [if_neg c]
      have hok2 : FlOk { x1 with ws := s :: r, fd := false } := ⟨by show 1 ≤ x1.qu; rw [f1]; exact hok.1, by show x1.qu ≤ 1500; rw [f1]; exact hok.2.1, fun y hy => hsr y (by rw [hw]; exact hy), by have := hok.2.2.2.1; rw [hw] at this; exact this, f4, f5, fun _ => by show x1.de ≤ 1500; omega, fun h => by simp at h⟩
      have hmem2 : ∀ t, t ∈ tr ++ [(i : Int)] ↔ t ∈ (i : Int) :: tr := fun t => by rw [List.mem_append, List.mem_singleton, List.mem_cons]; exact ⟨fun h => h.symm, fun h => h.symm⟩
      have hI2 : Inv m (fl.set i { x1 with ws := s :: r, fd := false }) (tr ++ [(i : Int)]) := by
        refine ⟨set_ok hI.ok hok2 i, by rw [List.length_set]; exact hI.len, fun t => (hmem2 t).trans ((hI.mem t).trans (hwsn _ (by simp) t)), ?_, by have := hI.tl; rw [List.length_append]; rw [List.length_cons] at this; simpa using this⟩
        rw [List.nodup_append]
        refine ⟨hnc.2, by simp, ?_⟩
        intro a ha b hb
        rw [List.mem_singleton] at hb
        subst hb
        intro e
        subst e
        exact hnc.1 ha
      have hm1 := sum_set mF { x1 with ws := s :: r, fd := false } zFl fl i hi
      rw [hx] at hm1
      have hm2 : mF { x1 with ws := s :: r, fd := false } < mF x := by
        unfold mF
        rw [hw]
        simp only [Bool.false_eq_true, if_false]
        by_cases cf : x.fd = true
        · rw [if_pos cf] at f3 ⊢
          rw [f3]
          omega
        · rw [if_neg cf] at f3 ⊢
          rw [f3] at c ⊢
          have := hok.1
          omega
      obtain ⟨i', s', r', fl', tn', g1, g2, g3, g4, g5, g6, g7⟩ := ih _ _ hI2 (by simp) (by unfold MF at hM ⊢; omega)
      rw [List.length_set] at g3 g5
      have hgd : ∀ j, ((fl.set i { x1 with ws := s :: r, fd := false }).getD j zFl).ws = (fl.getD j zFl).ws := fun j => by
        rw [getD_set2 _ _ _ _ _ hi]
        split
        · rename_i e; rw [e, hx, hw]
        · rfl
      refine ⟨i', s', r', fl', tn', g1, (hmem2 _).1 g2, g3, by rw [← hgd]; exact g4, g5, fun j => by rw [g6 j, hgd j], g7⟩
theorem sendsO_spec {m : Nat} {fl : List Fl} {tn : List Int} (h : Inv m fl tn) (hm : m ≤ 1000) (hne : tn ≠ []) : ∃ (i : Nat) (s : Int) (r : List Int) (fl' : List Fl) (tn' : List Int), sendsO fl tn = some (fl', tn', ⟨0, i, s⟩) ∧ (i : Int) ∈ tn ∧ i < fl.length ∧ (fl.getD i zFl).ws = s :: r ∧ fl'.length = fl.length ∧ (∀ j, (fl'.getD j zFl).ws = if j = i then r else (fl.getD j zFl).ws) ∧ Inv m fl' tn' := by
  have h1 := MF_le h.ok
  have h2 := h.len
  have h3 := h.tl
  unfold sendsO
  rw [if_pos (by omega), if_neg hne]
  exact sends_spec m fairFuel fl tn h hne (by unfold fairFuel; omega)
theorem sendsO_none {m : Nat} {fl : List Fl} (_ : Inv m fl []) : sendsO fl [] = some (fl, [], ⟨7, 0, 0⟩) := by
  unfold sendsO
  rw [if_pos (by simp), if_pos rfl]
/-- what a coming does -/
theorem comesO_full {m : Nat} {fl : List Fl} {tn : List Int} (h : Inv m fl tn) (hm : m ≤ 1000) (i : Nat) (z : Int) (hi : i < fl.length) (hz : z ≤ 1500) (hf : (fl.getD i zFl).ws.length = 40) : comesO fl tn ⟨i, z⟩ = some (fl, tn, ⟨9, 0, 0⟩) := by
  have h3 := h.tl
  unfold comesO
  rw [if_pos (by omega), if_neg (by show ¬ ((i : Int) < 0 ∨ (fl.length : Int) ≤ (i : Int) ∨ 1500 < z); omega)]
  show (if (fl.getD ((i : Int)).toNat zFl).ws.length = 40 then _ else _) = _
  rw [Int.toNat_natCast, if_pos hf]
theorem comesO_spec {m : Nat} {fl : List Fl} {tn : List Int} (h : Inv m fl tn) (hm : m ≤ 1000) (i : Nat) (z : Int) (hi : i < fl.length) (h0 : 1 ≤ z) (hz : z ≤ 1500) (hf : ¬ (fl.getD i zFl).ws.length = 40) :
    ∃ fl' tn', comesO fl tn ⟨i, z⟩ = some (fl', tn', ⟨0, 0, 0⟩) ∧ fl'.length = fl.length ∧ (∀ j, (fl'.getD j zFl).ws = if j = i then (fl.getD i zFl).ws ++ [z] else (fl.getD j zFl).ws) ∧ Inv (m + 1) fl' tn' := by
  have h3 := h.tl
  have hok := h.ok _ (getD_mem fl i zFl hi)
  have hl := hok.2.2.2.1
  unfold comesO
  rw [if_pos (by omega), if_neg (by show ¬ ((i : Int) < 0 ∨ (fl.length : Int) ≤ (i : Int) ∨ 1500 < z); omega)]
  simp only [Int.toNat_natCast]
  rw [if_neg hf, if_pos (by omega)]
  obtain ⟨x, hx⟩ : ∃ x, fl.getD i zFl = x := ⟨_, rfl⟩
  rw [hx] at hok hl hf ⊢
  refine ⟨_, _, rfl, by rw [List.length_set], fun j => by rw [getD_set2 _ _ _ _ _ hi]; split <;> rfl, ?_⟩
  have hok2 : FlOk { x with ws := x.ws ++ [z] } := by
    obtain ⟨a1, a2, a3, a4, a5, a6, a7, a8⟩ := hok
    refine ⟨a1, a2, fun s hs => ?_, by show (x.ws ++ [z]).length ≤ 40; rw [List.length_append]; simp; omega, a5, a6, a7, fun e => by simp at e⟩
    rcases List.mem_append.1 hs with hs | hs
    · exact a3 s hs
    · rw [List.mem_singleton] at hs; rw [hs]; exact ⟨h0, hz⟩
  have hmem : ∀ t, (∃ j : Nat, t = (j : Int) ∧ j < (fl.set i { x with ws := x.ws ++ [z] }).length ∧ ((fl.set i { x with ws := x.ws ++ [z] }).getD j zFl).ws ≠ []) ↔ t = (i : Int) ∨ ∃ j : Nat, t = (j : Int) ∧ j < fl.length ∧ (fl.getD j zFl).ws ≠ [] := by
    intro t
    constructor
    · rintro ⟨j, g1, g2, g3⟩
      rw [List.length_set] at g2
      rw [getD_set2 _ _ _ _ _ hi] at g3
      by_cases c : j = i
      · left; omega
      · rw [if_neg c] at g3; exact .inr ⟨j, g1, g2, g3⟩
    · rintro (g | ⟨j, g1, g2, g3⟩)
      · refine ⟨i, g, by rw [List.length_set]; exact hi, ?_⟩
        rw [getD_set2 _ _ _ _ _ hi, if_pos rfl]
        simp
      · refine ⟨j, g1, by rw [List.length_set]; exact g2, ?_⟩
        rw [getD_set2 _ _ _ _ _ hi]
        split
        · simp
        · exact g3
  by_cases c : x.ws.length = 0
  · rw [if_pos c]
    have hni : (i : Int) ∉ tn := fun hm => by
      obtain ⟨j, g1, g2, g3⟩ := (h.mem _).1 hm
      have : j = i := by omega
      rw [this, hx] at g3
      exact g3 (List.eq_nil_of_length_eq_zero c)
    refine ⟨set_ok h.ok hok2 i, by rw [List.length_set]; exact h.len, fun t => ?_, ?_, by rw [List.length_append]; simp; omega⟩
    · rw [hmem t, ← h.mem t, List.mem_append, List.mem_singleton]
      exact ⟨fun g => g.symm, fun g => g.symm⟩
    · rw [List.nodup_append]
      refine ⟨h.nod, by simp, ?_⟩
      intro a ha b hb
      rw [List.mem_singleton] at hb
      subst hb
      intro e
      subst e
      exact hni ha
  · rw [if_neg c]
    refine ⟨set_ok h.ok hok2 i, by rw [List.length_set]; exact h.len, fun t => ?_, h.nod, by omega⟩
    rw [hmem t, ← h.mem t]
    constructor
    · exact fun g => .inr g
    · rintro (g | g)
      · exact (h.mem t).2 ⟨i, g, hi, by rw [hx]; intro e; rw [e] at c; exact c rfl⟩
      · exact g
theorem Inv.start (qs : List Int) (h6 : qs.length ≤ 6) (hg : ∀ n, n ∈ qs → 1 ≤ n ∧ n ≤ 1500) : Inv 0 (qs.map fun n => ⟨n, [], 0, false⟩) [] := by
  refine ⟨fun x hx => ?_, by rw [List.length_map]; exact h6, fun t => ?_, List.nodup_nil, Nat.le_refl _⟩
  · obtain ⟨n, hn, rfl⟩ := List.mem_map.1 hx
    have := hg n hn
    exact ⟨this.1, this.2, fun s hs => by simp at hs, by simp, by simp, by simp, fun _ => by simp, fun _ => ⟨rfl, rfl⟩⟩
  · constructor
    · intro h; simp at h
    · rintro ⟨j, g1, g2, g3⟩
      exfalso
      apply g3
      rw [List.length_map] at g2
      rw [List.getD_eq_getElem?_getD, List.getElem?_map, List.getElem?_eq_getElem g2]
      rfl
theorem Inv.more {m n : Nat} {fl : List Fl} {tn : List Int} (h : Inv m fl tn) (hn : m ≤ n) : Inv n fl tn := ⟨h.ok, h.len, h.mem, h.nod, by have := h.tl; omega⟩

theorem quanta_l0 (l : List Int) : ∀ (m i k : Nat) (x : List Int), i + m = 3 → m < k → x.length = 3 → (∀ n, n ∈ x → 1 ≤ n ∧ n ≤ 200) → ∃ q, packthreadkeep_Quanta.l0 k l x (i : Int) = some q ∧ q.length = 3 ∧ ∀ n, n ∈ q → 1 ≤ n ∧ n ≤ 200 := by
  intro m
  induction m with
  | zero =>
    intro i k x h1 h2 h3 h4
    obtain ⟨k, rfl⟩ : ∃ q, k = q + 1 := ⟨k - 1, by omega⟩
    exact ⟨x, by rw [packthreadkeep_Quanta.l0, if_neg (by omega)], h3, h4⟩
  | succ m ih =>
    intro i k x h1 h2 h3 h4
    obtain ⟨k, rfl⟩ : ∃ q, k = q + 1 := ⟨k - 1, by omega⟩
    rw [packthreadkeep_Quanta.l0, if_pos (by omega)]
    by_cases c : (i : Int) < (l.length : Int)
    · have hp0 := Int.emod_nonneg (rd l (i : Int)) (show (200 : Int) ≠ 0 by omega)
      have hp1 := Int.emod_lt_of_pos (rd l (i : Int)) (show (0 : Int) < 200 by omega)
      rw [if_pos c, if_pos (by omega), picked_eq _ _ (by decide) (by decide), Option.bind_some, if_pos (by omega), wrap64_id (x := (i : Int) + 1) (by omega) (by omega), wrap64_id (x := 1 + rd l (i : Int) % 200) (by omega) (by omega)]
      refine ih (i + 1) k _ (by omega) (by omega) (by rw [List.length_set]; exact h3) ?_
      intro n hn
      rcases List.mem_or_eq_of_mem_set hn with h | h
      · exact h4 n h
      · omega
    · rw [if_neg c]
      exact ⟨x, rfl, h3, h4⟩
theorem quanta_eq (k : Nat) (l : List Int) (hk : 10 ≤ k) : ∃ q, packthreadkeep_Quanta.f k l = some q ∧ q.length = 3 ∧ ∀ n, n ∈ q → 1 ≤ n ∧ n ≤ 200 := by
  unfold packthreadkeep_Quanta.f
  refine quanta_l0 l 3 0 k _ (by omega) (by omega) rfl ?_
  intro n hn
  simp at hn
  omega
theorem play_len : ∀ (l : List S50) (fl : List Fl) (tn : List Int) (out res : List S52), playF l fl tn out = some res → res.length = out.length + l.length
  | [], fl, tn, out, res, h => by
    rw [playF] at h
    injection h with h
    subst h
    rfl
  | a :: l, fl, tn, out, res, h => by
    rw [playF] at h
    by_cases c : 0 < a.f1
    · rw [if_pos c] at h
      rcases hc : comesO fl tn a with _ | r
      · rw [hc] at h; exact absurd h (by simp)
      · rw [hc] at h
        have := play_len l _ _ _ _ h
        rw [this, List.length_append, List.length_cons, List.length_cons, List.length_nil]
        omega
    · rw [if_neg c] at h
      by_cases d : a.f1 < 0
      · rw [if_pos d] at h
        have := play_len l _ _ _ _ h
        rw [this, List.length_append, List.length_cons, List.length_cons, List.length_nil]
        omega
      · rw [if_neg d] at h
        rcases hc : sendsO fl tn with _ | r
        · rw [hc] at h; exact absurd h (by simp)
        · rw [hc] at h
          have := play_len l _ _ _ _ h
          rw [this, List.length_append, List.length_cons, List.length_cons, List.length_nil]
          omega
theorem one_eq : fair_Play.f [3] [(⟨0, 7⟩ : S50), (⟨0, 0⟩ : S50)] = some ([⟨0, 0, 0⟩, ⟨0, 0, 7⟩], 0) := by
  have h0 := Inv.start [3] (by simp) (by intro n hn; simp at hn; omega)
  obtain ⟨fl1, tn1, g1, g2, g3, g4⟩ := comesO_spec h0 (by omega) 0 7 (by simp) (by omega) (by omega) (by simp)
  have hw0 : (fl1.getD 0 zFl).ws = [7] := by rw [g3 0, if_pos rfl]; rfl
  have hl1 : fl1.length = 1 := by rw [g2]; rfl
  have hne : tn1 ≠ [] := by
    have := (g4.mem (0 : Int)).2 ⟨0, rfl, by omega, by rw [hw0]; simp⟩
    intro e
    rw [e] at this
    simp at this
  obtain ⟨i, s, r, fl2, tn2, k1, k2, k3, k4, _⟩ := sendsO_spec g4 (by omega) hne
  obtain rfl : i = 0 := by omega
  rw [hw0] at k4
  injection k4 with k4 _
  subst k4
  unfold fair_Play.f
  rw [if_pos ⟨by simp, by simp, by simp, by intro n hn; simp at hn; omega⟩]
  have : playF [(⟨0, 7⟩ : S50), (⟨0, 0⟩ : S50)] ([3].map fun n => (⟨n, [], 0, false⟩ : Fl)) [] [] = some [⟨0, 0, 0⟩, ⟨0, 0, 7⟩] := by
    rw [playF, if_pos (by decide)]
    rw [show comesO ([3].map fun n => (⟨n, [], 0, false⟩ : Fl)) [] ⟨0, 7⟩ = _ from g1]
    show playF [⟨0, 0⟩] fl1 tn1 _ = _
    rw [playF, if_neg (by decide), if_neg (by decide), k1]
    rfl
  rw [this]
theorem lined_eq (q : List Int) (l : List S50) (res : List S52) (hq : q.length = 3) (hg : ∀ n, n ∈ q → 1 ≤ n ∧ n ≤ 1500) (hl : l.length ≤ 300) (h : playF l (q.map fun n => ⟨n, [], 0, false⟩) [] [] = some res) : packthreadkeep_lined.f q l = some (res, true) := by
  have hlen := play_len l _ _ _ _ h
  unfold packthreadkeep_lined.f
  rw [if_pos (by rw [List.length_nil]; omega), if_pos (by rw [List.length_nil]; omega), List.nil_append, List.nil_append]
  have hp : fair_Play.f q l = some (res, 0) := by
    unfold fair_Play.f
    rw [if_pos ⟨by omega, by omega, hl, hg⟩, h]
  rw [hp, Option.bind_some, one_eq, Option.bind_some, if_pos rfl]
  show (if ((res.length : Nat) : Int) = (l.length : Int) then _ else _) = _
  rw [if_pos (by rw [hlen]; simp), if_pos rfl]
  rfl

def FeedOk (a : S50) : Prop := (a.f0 = 0 ∧ a.f1 = 0) ∨ ∃ i : Nat, a.f0 = (i : Int) ∧ i < 3 ∧ 1 ≤ a.f1 ∧ a.f1 ≤ 150
theorem feeds_l0 (l : List Int) (n : Nat) (hn : n ≤ 1000) : ∀ (m i k : Nat) (x : List S50), i + m = n → 2 * m + 2 ≤ k → x.length = i → (∀ a, a ∈ x → FeedOk a) → ∃ fs, packthreadkeep_Feeds.l0 k l (n : Int) x (i : Int) = some fs ∧ fs.length ≤ n ∧ ∀ a, a ∈ fs → FeedOk a := by
  intro m
  induction m with
  | zero =>
    intro i k x h1 h2 h3 h4
    obtain ⟨k, rfl⟩ : ∃ q, k = q + 2 := ⟨k - 2, by omega⟩
    have hj : packthreadkeep_Feeds.j1 (k + 1) l (n : Int) x (i : Int) false = some x := by rw [packthreadkeep_Feeds.j1, if_neg (by decide)]
    refine ⟨x, ?_, by omega, h4⟩
    rw [packthreadkeep_Feeds.l0, decide_eq_false (by omega), hj]
    split <;> rfl
  | succ m ih =>
    intro i k x h1 h2 h3 h4
    obtain ⟨k, rfl⟩ : ∃ q, k = q + 2 := ⟨k - 2, by omega⟩
    rw [packthreadkeep_Feeds.l0]
    by_cases c : (i : Int) < (l.length : Int)
    · have a0 := Int.emod_nonneg (wrap64 (Int.tdiv (rd l (i : Int)) 7)) (show (3 : Int) ≠ 0 by omega)
      have a1 := Int.emod_lt_of_pos (wrap64 (Int.tdiv (rd l (i : Int)) 7)) (show (0 : Int) < 3 by omega)
      have b0 := Int.emod_nonneg (wrap64 (Int.tdiv (rd l (i : Int)) 21)) (show (150 : Int) ≠ 0 by omega)
      have b1 := Int.emod_lt_of_pos (wrap64 (Int.tdiv (rd l (i : Int)) 21)) (show (0 : Int) < 150 by omega)
      rw [if_pos c, decide_eq_true (show (i : Int) < (n : Int) by omega), packthreadkeep_Feeds.j1, if_pos rfl, if_pos (by omega), if_pos c, picked_eq _ _ (by decide) (by decide), Option.bind_some]
      split
      · rw [picked_eq _ _ (by decide) (by decide), Option.bind_some, picked_eq _ _ (by decide) (by decide), Option.bind_some, if_pos (by omega), wrap64_id (x := (i : Int) + 1) (by omega) (by omega), wrap64_id (x := 1 + _ % 150) (by omega) (by omega)]
        refine ih (i + 1) k _ (by omega) (by omega) (by rw [List.length_append, h3]; rfl) (fun a ha => ?_)
        rcases List.mem_append.1 ha with ha | ha
        · exact h4 a ha
        · rw [List.mem_singleton] at ha
          subst ha
          exact .inr ⟨(wrap64 (Int.tdiv (rd l (i : Int)) 7) % 3).toNat, by show wrap64 (Int.tdiv (rd l (i : Int)) 7) % 3 = (((wrap64 (Int.tdiv (rd l (i : Int)) 7) % 3).toNat : Nat) : Int); omega, by omega, by show 1 ≤ 1 + _; omega, by show 1 + _ ≤ 150; omega⟩
      · rw [if_pos (by omega), wrap64_id (x := (i : Int) + 1) (by omega) (by omega)]
        refine ih (i + 1) k _ (by omega) (by omega) (by rw [List.length_append, h3]; rfl) (fun a ha => ?_)
        rcases List.mem_append.1 ha with ha | ha
        · exact h4 a ha
        · rw [List.mem_singleton] at ha
          subst ha
          exact .inl ⟨rfl, rfl⟩
    · have hj : packthreadkeep_Feeds.j1 (k + 1) l (n : Int) x (i : Int) false = some x := by rw [packthreadkeep_Feeds.j1, if_neg (by decide)]
      rw [if_neg c, hj]
      exact ⟨x, rfl, by omega, h4⟩
theorem feeds_eq (k : Nat) (l : List Int) (n : Nat) (hn : n ≤ 1000) (hk : 3000 ≤ k) : ∃ fs, packthreadkeep_Feeds.f k l (n : Int) = some fs ∧ fs.length ≤ n ∧ ∀ a, a ∈ fs → FeedOk a := by
  unfold packthreadkeep_Feeds.f
  exact feeds_l0 l n hn n 0 k [] (by omega) (by omega) rfl (fun a ha => by simp at ha)

def dbl (x : Fl) : Fl := ⟨2 * x.qu, x.ws.map (2 * ·), 2 * x.de, x.fd⟩
def dblF (a : S50) : S50 := ⟨a.f0, 2 * a.f1⟩
def dblS (a : S52) : S52 := ⟨a.f0, a.f1, 2 * a.f2⟩
def dblR (r : List Fl × List Int × S52) : List Fl × List Int × S52 := (r.1.map dbl, r.2.1, dblS r.2.2)
theorem getD_dbl (fl : List Fl) (i : Nat) : (fl.map dbl).getD i zFl = dbl (fl.getD i zFl) := by
  rw [List.getD_eq_getElem?_getD, List.getD_eq_getElem?_getD, List.getElem?_map]
  rcases fl[i]? with _ | v <;> rfl
theorem set_dbl (fl : List Fl) (i : Nat) (y : Fl) : (fl.map dbl).set i (dbl y) = (fl.set i y).map dbl := by rw [List.map_set]
theorem fed_dbl {x : Fl} (h : FlOk x) : fedF (dbl x) = dbl (fedF x) := by
  obtain ⟨h1, h2, h3, h4, h5, h6, h7, h8⟩ := h
  unfold fedF
  by_cases c : x.fd = true
  · rw [if_pos c, if_pos (show (dbl x).fd = true from c)]
  · rw [if_neg c, if_neg (show ¬ (dbl x).fd = true from c)]
    unfold dbl
    show (⟨2 * x.qu, x.ws.map (2 * ·), wrap64 (2 * x.de + 2 * x.qu), true⟩ : Fl) = ⟨2 * x.qu, x.ws.map (2 * ·), 2 * wrap64 (x.de + x.qu), true⟩
    rw [wrap64_id (x := 2 * x.de + 2 * x.qu) (by omega) (by omega), wrap64_id (x := x.de + x.qu) (by omega) (by omega)]
    congr 1
    omega
theorem sent_dbl (fl : List Fl) (tn : List Int) (i : Nat) (h : ∀ s r, (fl.getD i zFl).ws = s :: r → -100000 ≤ (fl.getD i zFl).de ∧ (fl.getD i zFl).de ≤ 100000 ∧ 0 ≤ s ∧ s ≤ 100000) : sentF (fl.map dbl) tn i = (sentF fl tn i).map dblR := by
  unfold sentF
  rw [getD_dbl]
  obtain ⟨x, hx⟩ : ∃ x, fl.getD i zFl = x := ⟨_, rfl⟩
  rw [hx] at h ⊢
  rcases hw : x.ws with _ | ⟨s, r⟩
  · simp only [dbl, hw, List.map_nil]
    rfl
  · have hb := h s r hw
    simp only [dbl, hw, List.map_cons]
    by_cases c : r = []
    · subst c
      rw [if_pos rfl, if_pos (by rfl)]
      rcases tn with _ | ⟨t, tr⟩
      · rfl
      · show some _ = some _
        congr 1
        unfold dblR
        rw [← set_dbl]
        rfl
    · rw [if_neg c, if_neg (by simpa using c)]
      show some _ = some _
      congr 1
      unfold dblR
      rw [← set_dbl, wrap64_id (x := 2 * x.de - 2 * s) (by omega) (by omega), wrap64_id (x := x.de - s) (by omega) (by omega)]
      show ((fl.map dbl).set i ⟨2 * x.qu, r.map (2 * ·), 2 * x.de - 2 * s, x.fd⟩, _) = ((fl.map dbl).set i ⟨2 * x.qu, r.map (2 * ·), 2 * (x.de - s), x.fd⟩, _)
      rw [show 2 * x.de - 2 * s = 2 * (x.de - s) by omega]
      rfl
theorem step_ok {x : Fl} {s : Int} {r : List Int} (hok : FlOk x) (hw : x.ws = s :: r) (c : ¬ s ≤ (fedF x).de) : FlOk { fedF x with ws := s :: r, fd := false } := by
  obtain ⟨f1, f2, f3, f4, f5⟩ := fed_ok hok hw
  have hs : 1 ≤ s ∧ s ≤ 1500 := hok.2.2.1 s (by rw [hw]; exact List.mem_cons_self ..)
  exact ⟨by show 1 ≤ (fedF x).qu; rw [f1]; exact hok.1, by show (fedF x).qu ≤ 1500; rw [f1]; exact hok.2.1, fun y hy => hok.2.2.1 y (by rw [hw]; exact hy), by have := hok.2.2.2.1; rw [hw] at this; exact this, f4, f5, fun _ => by show (fedF x).de ≤ 1500; omega, fun h => by simp at h⟩
theorem sends_dbl : ∀ (k : Nat) (fl : List Fl) (tn : List Int), (∀ x, x ∈ fl → FlOk x) → sendsF k (fl.map dbl) tn = (sendsF k fl tn).map dblR := by
  intro k
  induction k with
  | zero => intro fl tn _; rfl
  | succ k ih =>
    intro fl tn hok
    rcases tn with _ | ⟨t, tr⟩
    · rfl
    rw [sendsF, sendsF, List.length_map]
    by_cases c0 : 0 ≤ t ∧ t < (fl.length : Int)
    · simp only [if_pos c0]
      obtain ⟨i, rfl⟩ : ∃ i : Nat, t = (i : Int) := ⟨t.toNat, by omega⟩
      have hi : i < fl.length := by omega
      simp only [Int.toNat_natCast, getD_dbl]
      obtain ⟨x, hx⟩ : ∃ x, fl.getD i zFl = x := ⟨_, rfl⟩
      have hxo : FlOk x := by rw [← hx]; exact hok _ (getD_mem fl i zFl hi)
      rw [hx, fed_dbl hxo]
      rcases hw : x.ws with _ | ⟨s, r⟩
      · have e1 : (fedF x).ws = [] := by rw [fedF_ws]; exact hw
        have e2 : (dbl (fedF x)).ws = [] := by unfold dbl; rw [e1]; rfl
        simp only [e1, e2]
        rfl
      · have e1 : (fedF x).ws = s :: r := by rw [fedF_ws]; exact hw
        have e2 : (dbl (fedF x)).ws = 2 * s :: r.map (2 * ·) := by unfold dbl; rw [e1]; rfl
        obtain ⟨f1, f2, f3, f4, f5⟩ := fed_ok hxo hw
        have hs : 1 ≤ s ∧ s ≤ 1500 := hxo.2.2.1 s (by rw [hw]; exact List.mem_cons_self ..)
        simp only [e1, e2]
        have e3 : (dbl (fedF x)).de = 2 * (fedF x).de := rfl
        by_cases c : s ≤ (fedF x).de
        · rw [if_pos c, if_pos (by rw [e3]; omega), set_dbl]
          refine sent_dbl _ _ _ ?_
          rw [getD_set fl i _ zFl hi]
          intro s' r' h'
          rw [e1] at h'
          injection h' with h' _
          omega
        · rw [if_neg c, if_neg (by rw [e3]; omega)]
          have e4 : (⟨(dbl (fedF x)).qu, 2 * s :: r.map (2 * ·), (dbl (fedF x)).de, false⟩ : Fl) = dbl ⟨(fedF x).qu, s :: r, (fedF x).de, false⟩ := rfl
          rw [e4, set_dbl]
          exact ih _ _ (set_ok hok (step_ok hxo hw c) i)
    · simp only [if_neg c0]
      rfl
theorem sendsO_dbl (fl : List Fl) (tn : List Int) (h : ∀ x, x ∈ fl → FlOk x) : sendsO (fl.map dbl) tn = (sendsO fl tn).map dblR := by
  unfold sendsO
  by_cases c : tn.length ≤ 1000
  · rw [if_pos c, if_pos c]
    by_cases d : tn = []
    · rw [if_pos d, if_pos d]
      rfl
    · rw [if_neg d, if_neg d]
      exact sends_dbl _ _ _ h
  · rw [if_neg c, if_neg c]
    rfl
theorem comesO_dbl (fl : List Fl) (tn : List Int) (a : S50) (h : a.f1 ≤ 150) : comesO (fl.map dbl) tn (dblF a) = (comesO fl tn a).map dblR := by
  unfold comesO
  by_cases c : tn.length ≤ 1000
  · rw [if_pos c, if_pos c, List.length_map, getD_dbl]
    have e : (dblF a).f0 = a.f0 := rfl
    have e1 : (dblF a).f1 = 2 * a.f1 := rfl
    rw [e, e1]
    by_cases d : a.f0 < 0 ∨ (fl.length : Int) ≤ a.f0 ∨ 1500 < a.f1
    · rw [if_pos d, if_pos (by omega)]
      rfl
    · rw [if_neg d, if_neg (by omega)]
      obtain ⟨x, hx⟩ : ∃ x, fl.getD a.f0.toNat zFl = x := ⟨_, rfl⟩
      rw [hx]
      have e2 : (dbl x).ws.length = x.ws.length := List.length_map ..
      rw [e2]
      by_cases f : x.ws.length = 40
      · rw [if_pos f, if_pos f]
        rfl
      · rw [if_neg f, if_neg f]
        by_cases g : x.ws.length < 40
        · rw [if_pos g, if_pos g]
          show some _ = some _
          congr 1
          unfold dblR
          rw [← set_dbl]
          have e3 : ({ dbl x with ws := (dbl x).ws ++ [2 * a.f1] } : Fl) = dbl { x with ws := x.ws ++ [a.f1] } := by
            unfold dbl
            simp
          rw [e3]
          rfl
        · rw [if_neg g, if_neg g]
          rfl
  · rw [if_neg c, if_neg c]
    rfl
theorem scale_play : ∀ (l : List S50) (m : Nat) (fl : List Fl) (tn : List Int) (out : List S52), Inv m fl tn → fl.length = 3 → m + l.length ≤ 1000 → (∀ a, a ∈ l → FeedOk a) → ∃ res, playF l fl tn out = some res ∧ playF (l.map dblF) (fl.map dbl) tn (out.map dblS) = some (res.map dblS)
  | [], m, fl, tn, out, _, _, _, _ => ⟨out, rfl, rfl⟩
  | a :: l, m, fl, tn, out, h1, h2, h3, h4 => by
    rw [List.length_cons] at h3
    have h5 := fun b hb => h4 b (List.mem_cons_of_mem a hb)
    rw [List.map_cons, playF, playF]
    have hk : ∀ (r : List Fl × List Int × S52) (m' : Nat), m' ≤ m + 1 → Inv m' r.1 r.2.1 → r.1.length = 3 → ∃ res, playF l r.1 r.2.1 (out ++ [r.2.2]) = some res ∧ playF (l.map dblF) (dblR r).1 (dblR r).2.1 (out.map dblS ++ [(dblR r).2.2]) = some (res.map dblS) := by
      intro r m' g1 g2 g3
      obtain ⟨res, k1, k2⟩ := scale_play l m' r.1 r.2.1 (out ++ [r.2.2]) g2 g3 (by omega) h5
      rw [List.map_append] at k2
      exact ⟨res, k1, k2⟩
    rcases h4 a (List.mem_cons_self ..) with ⟨e0, e1⟩ | ⟨i, e0, e1, e2, e3⟩
    · have hd : (dblF a).f1 = 0 := by show 2 * a.f1 = 0; omega
      rw [if_neg (by omega), if_neg (by omega), if_neg (by omega), if_neg (by omega), sendsO_dbl fl tn h1.ok]
      by_cases c : tn = []
      · subst c
        rw [sendsO_none h1]
        exact hk (fl, [], ⟨7, 0, 0⟩) m (by omega) h1 h2
      · obtain ⟨i, s, r, fl', tn', g1, g2, g3, g4, g5, g6, g7⟩ := sendsO_spec h1 (by omega) c
        rw [g1]
        exact hk (fl', tn', ⟨0, i, s⟩) m (by omega) g7 (by show fl'.length = 3; omega)
    · have hd : (dblF a).f1 = 2 * a.f1 := rfl
      rw [if_pos (by omega), if_pos (by omega), comesO_dbl fl tn a e3]
      have ea : a = ⟨(i : Int), a.f1⟩ := by rw [← e0]
      by_cases c : (fl.getD i zFl).ws.length = 40
      · have g := comesO_full h1 (by omega) i a.f1 (by omega) (by omega) c
        rw [← ea] at g
        rw [g]
        exact hk (fl, tn, ⟨9, 0, 0⟩) m (by omega) h1 h2
      · obtain ⟨fl', tn', g1, g2, g3, g4⟩ := comesO_spec h1 (by omega) i a.f1 (by omega) (by omega) (by omega) c
        rw [← ea] at g1
        rw [g1]
        exact hk (fl', tn', ⟨0, 0, 0⟩) (m + 1) (by omega) g4 (by show fl'.length = 3; omega)
theorem fs_l0 (q : List Int) (hq : q.length = 3) (hg : ∀ n, n ∈ q → 1 ≤ n ∧ n ≤ 200) (fs : List S50) : ∀ (m i k : Nat) (x : List Int), i + m = 3 → x = (q.take i).map (2 * ·) → packthreadkeep_FairScale.l0 (k + m + 1) q fs x (i : Int) = packthreadkeep_FairScale.l1 k q fs (q.map (2 * ·)) [] 0 := by
  intro m
  induction m with
  | zero =>
    intro i k x h1 h2
    rw [packthreadkeep_FairScale.l0, if_neg (by omega), h2, List.take_of_length_le (by omega)]
  | succ m ih =>
    intro i k x h1 h2
    have hi : i < q.length := by omega
    have hr : rd q (i : Int) = q[i] := by rw [rd, Int.toNat_natCast, List.getD_eq_getElem?_getD, List.getElem?_eq_getElem hi]; rfl
    have hb := hg q[i] (List.getElem_mem hi)
    rw [show k + (m + 1) + 1 = (k + m + 1) + 1 by omega, packthreadkeep_FairScale.l0, if_pos (by omega), if_pos (by omega), if_pos (by omega), if_pos (by rw [h2, List.length_map, List.length_take]; omega), hr, wrap64_id (x := 2 * q[i]) (by omega) (by omega), wrap64_id (x := (i : Int) + 1) (by omega) (by omega)]
    refine ih (i + 1) k _ (by omega) ?_
    rw [h2, List.take_add, List.map_append, List.drop_eq_getElem_cons hi]
    rfl
theorem fs_l1 (q x7 : List Int) (fs : List S50) (hf : fs.length ≤ 1000) (hg : ∀ a, a ∈ fs → FeedOk a) : ∀ (m i k : Nat) (x : List S50), i + m = fs.length → x = (fs.take i).map dblF → packthreadkeep_FairScale.l1 (k + m + 1) q fs x7 x (i : Int) = ((packthreadkeep_lined.f q fs).bind fun bt171 => ((packthreadkeep_lined.f x7 (fs.map dblF)).bind fun bt175 => (if bt171.2 = true then (packthreadkeep_FairScale.j2 k bt171.1 bt175.1 (!bt175.2)) else (packthreadkeep_FairScale.j2 k bt171.1 bt175.1 true)))) := by
  intro m
  induction m with
  | zero =>
    intro i k x h1 h2
    rw [packthreadkeep_FairScale.l1, if_neg (by omega), h2, List.take_of_length_le (by omega)]
  | succ m ih =>
    intro i k x h1 h2
    have hi : i < fs.length := by omega
    have hr : rd_T50 fs (i : Int) = fs[i] := by rw [rd_T50, Int.toNat_natCast, List.getD_eq_getElem?_getD, List.getElem?_eq_getElem hi]; rfl
    have hb : 0 ≤ fs[i].f1 ∧ fs[i].f1 ≤ 150 := by
      rcases hg fs[i] (List.getElem_mem hi) with ⟨_, e⟩ | ⟨_, _, _, e, e'⟩ <;> omega
    rw [show k + (m + 1) + 1 = (k + m + 1) + 1 by omega, packthreadkeep_FairScale.l1, if_pos (by omega), if_pos (by omega), if_pos (by rw [h2, List.length_map, List.length_take]; omega), hr, wrap64_id (x := 2 * fs[i].f1) (by omega) (by omega), wrap64_id (x := (i : Int) + 1) (by omega) (by omega)]
    refine ih (i + 1) k _ (by omega) ?_
    rw [h2, List.take_add, List.map_append, List.drop_eq_getElem_cons hi]
    rfl
theorem fs_l2 (a : List S52) (hl : a.length ≤ 1000) (hb : ∀ x, x ∈ a → -100000 ≤ x.f2 ∧ x.f2 ≤ 100000) : ∀ (m i k : Nat), i + m = a.length → m < k → packthreadkeep_FairScale.l2 k a (a.map dblS) (i : Int) = some true := by
  intro m
  induction m with
  | zero =>
    intro i k h1 h2
    obtain ⟨k, rfl⟩ : ∃ q, k = q + 1 := ⟨k - 1, by omega⟩
    rw [packthreadkeep_FairScale.l2, if_neg (by omega)]
  | succ m ih =>
    intro i k h1 h2
    obtain ⟨k, rfl⟩ : ∃ q, k = q + 1 := ⟨k - 1, by omega⟩
    have hi : i < a.length := by omega
    have hr : rd_T52 a (i : Int) = a[i] := by rw [rd_T52, Int.toNat_natCast, List.getD_eq_getElem?_getD, List.getElem?_eq_getElem hi]; rfl
    have hr2 : rd_T52 (a.map dblS) (i : Int) = dblS a[i] := by rw [rd_T52, Int.toNat_natCast, List.getD_eq_getElem?_getD, List.getElem?_map, List.getElem?_eq_getElem hi]; rfl
    have hx := hb a[i] (List.getElem_mem hi)
    rw [packthreadkeep_FairScale.l2, if_pos (by omega), if_pos (by omega), if_pos (by rw [List.length_map]; omega), hr, hr2, if_pos (show a[i].f0 = (dblS a[i]).f0 from rfl), if_pos (show a[i].f1 = (dblS a[i]).f1 from rfl), wrap64_id (x := 2 * a[i].f2) (by omega) (by omega), if_pos (show 2 * a[i].f2 = (dblS a[i]).f2 from rfl), wrap64_id (x := (i : Int) + 1) (by omega) (by omega)]
    exact ih (i + 1) k (by omega) (by omega)
theorem play_sizes : ∀ (l : List S50) (m : Nat) (fl : List Fl) (tn : List Int) (out res : List S52), Inv m fl tn → fl.length = 3 → m + l.length ≤ 1000 → (∀ a, a ∈ l → FeedOk a) → (∀ x, x ∈ out → -100000 ≤ x.f2 ∧ x.f2 ≤ 100000) → playF l fl tn out = some res → ∀ x, x ∈ res → -100000 ≤ x.f2 ∧ x.f2 ≤ 100000
  | [], m, fl, tn, out, res, _, _, _, _, h5, h6 => by
    rw [playF] at h6
    injection h6 with h6
    subst h6
    exact h5
  | a :: l, m, fl, tn, out, res, h1, h2, h3, h4, h5, h6 => by
    rw [List.length_cons] at h3
    have h7 := fun b hb => h4 b (List.mem_cons_of_mem a hb)
    have happ : ∀ y : S52, (-100000 ≤ y.f2 ∧ y.f2 ≤ 100000) → ∀ x, x ∈ out ++ [y] → -100000 ≤ x.f2 ∧ x.f2 ≤ 100000 := fun y hy x hx => by
      rcases List.mem_append.1 hx with hx | hx
      · exact h5 x hx
      · rw [List.mem_singleton] at hx; rw [hx]; exact hy
    rw [playF] at h6
    rcases h4 a (List.mem_cons_self ..) with ⟨e0, e1⟩ | ⟨i, e0, e1, e2, e3⟩
    · rw [if_neg (by omega), if_neg (by omega)] at h6
      by_cases c : tn = []
      · subst c
        rw [sendsO_none h1] at h6
        exact play_sizes l m fl [] _ res h1 h2 (by omega) h7 (happ _ (by simp)) h6
      · obtain ⟨i, s, r, fl', tn', g1, g2, g3, g4, g5, g6, g7⟩ := sendsO_spec h1 (by omega) c
        have hs := (h1.ok _ (getD_mem fl i zFl g3)).2.2.1 s (by rw [g4]; exact List.mem_cons_self ..)
        rw [g1] at h6
        exact play_sizes l m fl' tn' _ res g7 (by omega) (by omega) h7 (happ _ (by show -100000 ≤ s ∧ s ≤ 100000; omega)) h6
    · rw [if_pos (by omega)] at h6
      have ea : a = ⟨(i : Int), a.f1⟩ := by rw [← e0]
      by_cases c : (fl.getD i zFl).ws.length = 40
      · have g := comesO_full h1 (by omega) i a.f1 (by omega) (by omega) c
        rw [← ea] at g
        rw [g] at h6
        exact play_sizes l m fl tn _ res h1 h2 (by omega) h7 (happ _ (by simp)) h6
      · obtain ⟨fl', tn', g1, g2, g3, g4⟩ := comesO_spec h1 (by omega) i a.f1 (by omega) (by omega) (by omega) c
        rw [← ea] at g1
        rw [g1] at h6
        exact play_sizes l (m + 1) fl' tn' _ res g4 (by omega) (by omega) h7 (happ _ (by simp)) h6
theorem FairScale : packthreadkeep_FairScale.Pure := by
  intro l0 l1 _ _ _ _ _ _
  have key : ∀ (fs : List S50) (k : Nat), fs.length ≤ 200 → (∀ a, a ∈ fs → FeedOk a) → 3000 ≤ k → ∀ q : List Int, q.length = 3 → (∀ n, n ∈ q → 1 ≤ n ∧ n ≤ 200) → packthreadkeep_FairScale.l0 (k + 1 + fs.length + 1 + 3 + 1) q fs [] 0 = some true := by
    intro fs k s2 s3 hk q q2 q3
    have hq : ∀ n, n ∈ q → 1 ≤ n ∧ n ≤ 1500 := fun n hn => by have := q3 n hn; omega
    have hq2 : ∀ n, n ∈ q.map (2 * ·) → 1 ≤ n ∧ n ≤ 1500 := fun n hn => by
      obtain ⟨y, hy, rfl⟩ := List.mem_map.1 hn
      have := q3 y hy
      show 1 ≤ 2 * y ∧ 2 * y ≤ 1500
      omega
    have h0 := Inv.start q (by omega) hq
    obtain ⟨res, r1, r2⟩ := scale_play fs 0 _ [] [] h0 (by rw [List.length_map]; exact q2) (by omega) s3
    have hsz := play_sizes fs 0 _ [] [] res h0 (by rw [List.length_map]; exact q2) (by omega) s3 (fun x hx => by simp at hx) r1
    have hlen := play_len fs _ _ _ _ r1
    rw [show ((q.map fun n => (⟨n, [], 0, false⟩ : Fl)).map dbl) = (q.map (2 * ·)).map fun n => (⟨n, [], 0, false⟩ : Fl) by rw [List.map_map, List.map_map]; rfl] at r2
    refine (fs_l0 q q2 q3 fs 3 0 (k + 1 + fs.length + 1) [] (by omega) rfl).trans ?_
    refine (fs_l1 q (q.map (2 * ·)) fs (by omega) s3 fs.length 0 (k + 1) [] (by omega) rfl).trans ?_
    rw [lined_eq q fs res q2 hq (by omega) r1, Option.bind_some, lined_eq (q.map (2 * ·)) (fs.map dblF) (res.map dblS) (by rw [List.length_map]; exact q2) hq2 (by rw [List.length_map]; omega) r2, Option.bind_some, if_pos rfl]
    show packthreadkeep_FairScale.j2 (k + 1) res (res.map dblS) false = some true
    rw [packthreadkeep_FairScale.j2, if_neg (by decide)]
    exact fs_l2 res (by rw [hlen]; simp; omega) hsz res.length 0 k (by omega) (by rw [hlen]; simp; omega)
  obtain ⟨fs, s1, s2, s3⟩ := feeds_eq 20000 l1 200 (by omega) (by omega)
  obtain ⟨q, q1, q2, q3⟩ := quanta_eq 20000 l0 (by omega)
  refine ⟨20000, ?_⟩
  unfold packthreadkeep_FairScale.f
  rw [q1, Option.bind_some]
  show ((packthreadkeep_Feeds.f 20000 l1 ((200 : Nat) : Int)).bind fun t159 => _) = _
  rw [s1, Option.bind_some]
  have := key fs (20000 - fs.length - 6) s2 s3 (by omega) q q2 q3
  rwa [show 20000 - fs.length - 6 + 1 + fs.length + 1 + 3 + 1 = 20000 by omega] at this

end Go.Proofs.Ytlgehakaedokeaa.Pure
