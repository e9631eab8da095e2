/- Proved: for every input the law BucketRests answers true: who rests long enough may burst again, and who asks for little, at its rate, is never held back. Condition: none (all integers, every list of integers). -/
import Derived.Test.YtfckgffeoepaaaaPBucketRestsx2
namespace Go.Proofs.Ytfckgffeoepaaaa.Pure
open Go.RowKit Go.Proofs.Ytfckgffeoepaaaa.PBucketRests Go.Proofs.YtfckgffeoepaaaaW.PrintWords Go.Proofs.YtfckgffeoepaaaaW.PrintLast
set_option linter.unusedVariables false

theorem wrap64_id {x : Int} (h0 : -9223372036854775808 ≤ x) (h1 : x ≤ 9223372036854775807) : wrap64 x = x := by unfold wrap64; omega

theorem picked_eq (a n : Int) (h0 : 0 < n) (h1 : n ≤ 1000000000000) : packthreadkeep_Picked.f a n = some (a % n) := by
  unfold packthreadkeep_Picked.f
  rw [if_neg (by omega)]
  have hm := Int.tmod_eq_emod (a := a) (b := n)
  have hlo := Int.emod_nonneg a (show n ≠ 0 by omega)
  have hhi := Int.emod_lt_of_pos a h0
  by_cases hc : 0 ≤ a ∨ n ∣ a
  · rw [if_pos hc] at hm
    have e : a.tmod n = a % n := by rw [hm]; simp
    rw [e, if_neg (by omega)]
  · rw [if_neg hc] at hm
    have e : a.tmod n = a % n - n := by rw [hm]; congr 1; omega
    rw [e, if_pos (by omega), wrap64_id (by omega) (by omega)]
    congr 1; omega

abbrev Pk := S50
def pat (ps : List Pk) (i : Nat) : Int := (ps.getD i z50).f0
def psz (ps : List Pk) (i : Nat) : Int := (ps.getD i z50).f1
/-- Packets that may be: within the limits, in their order. -/
structure Ok (ps : List Pk) : Prop where
  at0 : ∀ i, i < ps.length → 0 ≤ pat ps i ∧ pat ps i ≤ 1048576
  sz : ∀ i, i < ps.length → 1 ≤ psz ps i ∧ psz ps i ≤ 1500
  up : ∀ i, i + 1 < ps.length → pat ps i ≤ pat ps (i + 1)
theorem mn_cases (a b : Int) : (b < a ∧ mn a b = b) ∨ (a ≤ b ∧ mn a b = a) := by
  unfold mn; by_cases h : b < a
  · rw [if_pos h]; exact .inl ⟨h, rfl⟩
  · rw [if_neg h]; exact .inr ⟨by omega, rfl⟩
/-- The credit when a packet comes. -/
def cb (r u : Int) (ps : List Pk) : Nat → Int
  | 0 => u
  | i + 1 => mn u ((if psz ps i ≤ cb r u ps i then cb r u ps i - psz ps i else cb r u ps i) + r * (pat ps (i + 1) - pat ps i))
/-- The credit behind it. -/
def ca (r u : Int) (ps : List Pk) (i : Nat) : Int := if psz ps i ≤ cb r u ps i then cb r u ps i - psz ps i else cb r u ps i
theorem cb_succ (r u : Int) (ps : List Pk) (i : Nat) : cb r u ps (i + 1) = mn u (ca r u ps i + r * (pat ps (i + 1) - pat ps i)) := rfl
def pass (r u : Int) (ps : List Pk) (i : Nat) : Bool := decide (psz ps i ≤ cb r u ps i)
theorem ca_le {r u : Int} {ps : List Pk} (i : Nat) (hs : 0 ≤ psz ps i) : ca r u ps i ≤ cb r u ps i := by unfold ca; split <;> omega
theorem cb_range {r u : Int} {ps : List Pk} (ok : Ok ps) (hr : 0 ≤ r) (hu : 0 ≤ u) : ∀ i, i < ps.length → 0 ≤ cb r u ps i ∧ cb r u ps i ≤ u
  | 0, _ => ⟨hu, Int.le_refl _⟩
  | i + 1, h => by
    have h1 := cb_range ok hr hu i (by omega)
    have h2 := Int.mul_nonneg hr (show 0 ≤ pat ps (i + 1) - pat ps i by have := ok.up i h; omega)
    have h3 := ok.sz i (by omega)
    rw [cb_succ]
    have h4 : 0 ≤ ca r u ps i := by unfold ca; split <;> omega
    have := mn_cases u (ca r u ps i + r * (pat ps (i + 1) - pat ps i))
    omega
theorem ca_range {r u : Int} {ps : List Pk} (ok : Ok ps) (hr : 0 ≤ r) (hu : 0 ≤ u) (i : Nat) (h : i < ps.length) : 0 ≤ ca r u ps i ∧ ca r u ps i ≤ u := by
  have h1 := cb_range ok hr hu i h
  have h3 := ok.sz i h
  unfold ca; split <;> omega
theorem in_eq {x l h : Int} (h0 : l ≤ x) (h1 : x ≤ h) : bucket_in.f x l h = some true := by
  unfold bucket_in.f; rw [if_pos h0, decide_eq_true h1]
theorem may_eq {r u : Int} (h0 : 0 ≤ r) (h1 : r ≤ 1000) (h2 : 0 ≤ u) (h3 : u ≤ 100000) : bucket_may.f r u = some true := by
  unfold bucket_may.f
  rw [in_eq h0 h1, Option.bind_some, if_pos rfl, in_eq h2 h3, Option.bind_some]
theorem step_eq {r u : Int} {ps : List Pk} (ok : Ok ps) (h0 : 0 ≤ r) (h1 : r ≤ 1000) (h2 : 0 ≤ u) (h3 : u ≤ 100000) (hl : ps.length ≤ 300) (k i : Nat) (hi : i < ps.length) (c l : Int)
    (hc : c = if i = 0 then u else ca r u ps (i - 1)) (hlast : l = if i = 0 then 0 else pat ps (i - 1)) :
    bucket_Play.l0 (k + 3) r u ((List.range i).map (pass r u ps)) c l ps (ps.length : Int) i = bucket_Play.l0 k r u ((List.range (i + 1)).map (pass r u ps)) (ca r u ps i) (pat ps i) ps (ps.length : Int) ((i + 1 : Nat) : Int) := by
  have ha := ok.at0 i hi
  have hs := ok.sz i hi
  have hb := cb_range ok h0 h2 i hi
  have e1 : ((i : Int) + 1) = ((i + 1 : Nat) : Int) := by omega
  have ra : (rd_T50 ps (i : Int)).f0 = pat ps i := rfl
  have rs : (rd_T50 ps (i : Int)).f1 = psz ps i := rfl
  have hr1 : (List.range (i + 1)).map (pass r u ps) = (List.range i).map (pass r u ps) ++ [pass r u ps i] := by rw [List.range_succ]; simp
  rw [bucket_Play.l0, if_pos (by omega), if_pos (by omega), if_pos (by omega), ra, rs, in_eq ha.1 ha.2, Option.bind_some, if_pos rfl, in_eq hs.1 hs.2, Option.bind_some, bucket_Play.j1, if_neg (by decide)]
  have key : bucket_Play.j2 (k + 1) r u ((List.range i).map (pass r u ps)) c l i ps (ps.length : Int) i (pat ps i) (psz ps i) = bucket_Play.l0 k r u ((List.range (i + 1)).map (pass r u ps)) (ca r u ps i) (pat ps i) ps (ps.length : Int) ((i + 1 : Nat) : Int) := by
    rw [bucket_Play.j2, hr1]
    have hpass : pass r u ps i = decide (psz ps i ≤ cb r u ps i) := rfl
    have hlen : ((List.range i).map (pass r u ps)).length < 140737488355328 := by simp; omega
    cases i with
    | zero =>
      rw [if_pos rfl] at hc
      subst hc
      rw [if_neg (by omega)]
      have e : cb r c ps 0 = c := rfl
      unfold ca
      rw [hpass, e]
      by_cases g : psz ps 0 ≤ c
      · rw [if_pos g, if_pos hlen, if_pos g, decide_eq_true g, wrap64_id (by omega) (by omega), wrap64_id (by omega) (by omega)]; rfl
      · rw [if_neg g, if_pos hlen, if_neg g, decide_eq_false g, wrap64_id (by omega) (by omega)]; rfl
    | succ i =>
      rw [if_neg (by omega)] at hc hlast
      rw [show i + 1 - 1 = i by omega] at hc hlast
      have hca := ca_range ok h0 h2 i (by omega)
      have hat := ok.at0 i (by omega)
      have hup := ok.up i hi
      subst hc hlast
      have p1 := Int.mul_nonneg h0 (show 0 ≤ pat ps (i + 1) - pat ps i by omega)
      have p2 := Int.mul_le_mul h1 (show pat ps (i + 1) - pat ps i ≤ 1048576 by omega) (by omega) (by decide)
      have e : mn u (wrap64 (ca r u ps i + (wrap64 (r * (wrap64 (pat ps (i + 1) - pat ps i)))))) = cb r u ps (i + 1) := by
        rw [cb_succ, wrap64_id (x := pat ps (i + 1) - pat ps i) (by omega) (by omega), wrap64_id (x := r * (pat ps (i + 1) - pat ps i)) (by omega) (by omega), wrap64_id (by omega) (by omega)]
      rw [if_pos (by omega), e, hpass]
      unfold ca
      by_cases g : psz ps (i + 1) ≤ cb r u ps (i + 1)
      · rw [if_pos g, if_pos hlen, if_pos g, decide_eq_true g, wrap64_id (by omega) (by omega), wrap64_id (by omega) (by omega), e1]
      · rw [if_neg g, if_pos hlen, if_neg g, decide_eq_false g, wrap64_id (by omega) (by omega), e1]
  by_cases g : (i : Int) > 0
  · rw [if_pos g, if_neg ?_, key]
    rw [hlast, if_neg (by omega)]
    have := ok.up (i - 1) (by omega)
    rw [show i - 1 + 1 = i by omega] at this
    omega
  · rw [if_neg g, key]
theorem play_loop {r u : Int} {ps : List Pk} (ok : Ok ps) (h0 : 0 ≤ r) (h1 : r ≤ 1000) (h2 : 0 ≤ u) (h3 : u ≤ 100000) (hl : ps.length ≤ 300) (d : Nat) : ∀ (k i : Nat) (c l : Int), i + d = ps.length → 3 * d + 1 ≤ k →
    (c = if i = 0 then u else ca r u ps (i - 1)) → (l = if i = 0 then 0 else pat ps (i - 1)) →
    bucket_Play.l0 k r u ((List.range i).map (pass r u ps)) c l ps (ps.length : Int) i = some ((List.range ps.length).map (pass r u ps), 0) := by
  induction d with
  | zero =>
    intro k i c l hi hk _ _
    obtain ⟨k, rfl⟩ : ∃ m, k = m + 1 := ⟨k - 1, by omega⟩
    obtain rfl : i = ps.length := by omega
    rw [bucket_Play.l0, if_neg (by omega)]
  | succ d ih =>
    intro k i c l hi hk hc hla
    obtain ⟨k, rfl⟩ : ∃ m, k = m + 3 := ⟨k - 3, by omega⟩
    rw [step_eq ok h0 h1 h2 h3 hl k i (by omega) c l hc hla]
    exact ih k (i + 1) _ _ (by omega) (by omega) (by rw [if_neg (by omega)]; rfl) (by rw [if_neg (by omega)]; rfl)
def passes (r u : Int) (ps : List Pk) : List Bool := (List.range ps.length).map (pass r u ps)
theorem play_eq {r u : Int} {ps : List Pk} (k : Nat) (ok : Ok ps) (h0 : 0 ≤ r) (h1 : r ≤ 1000) (h2 : 0 ≤ u) (h3 : u ≤ 100000) (hl : ps.length ≤ 300) (hk : 1000 ≤ k) : bucket_Play.f k r u ps = some (passes r u ps, 0) := by
  unfold bucket_Play.f
  rw [may_eq h0 h1 h2 h3, Option.bind_some, if_pos rfl, if_neg (by omega)]
  exact play_loop ok h0 h1 h2 h3 hl ps.length k 0 u 0 (by omega) (by omega) rfl rfl
theorem passes_len (r u : Int) (ps : List Pk) : (passes r u ps).length = ps.length := by simp [passes]
theorem passes_at (r u : Int) (ps : List Pk) (i : Nat) (h : i < ps.length) : rdOf false (passes r u ps) (i : Int) = pass r u ps i := by
  simp [rdOf, passes, List.getD_eq_getElem?_getD, List.getElem?_map, List.getElem?_range h]
theorem bucketed_eq {r u : Int} {ps : List Pk} (k : Nat) (ok : Ok ps) (h0 : 0 ≤ r) (h1 : r ≤ 1000) (h2 : 0 ≤ u) (h3 : u ≤ 100000) (hl : ps.length ≤ 300) (hk : 1000 ≤ k) : packthreadkeep_bucketed.f k r u ps = some (passes r u ps, true) := by
  have ok1 : Ok ([⟨0, 5⟩, ⟨0, 1⟩, ⟨1, 1⟩] : List Pk) := by
    constructor
    · intro i hi
      have : i = 0 ∨ i = 1 ∨ i = 2 := by simp at hi; omega
      rcases this with rfl | rfl | rfl <;> decide
    · intro i hi
      have : i = 0 ∨ i = 1 ∨ i = 2 := by simp at hi; omega
      rcases this with rfl | rfl | rfl <;> decide
    · intro i hi
      have : i = 0 ∨ i = 1 := by simp at hi; omega
      rcases this with rfl | rfl <;> decide
  have e1 : passes 1 5 ([⟨0, 5⟩, ⟨0, 1⟩, ⟨1, 1⟩] : List Pk) = [true, false, true] := by decide
  unfold packthreadkeep_bucketed.f
  rw [if_pos (by simp; omega), List.nil_append, play_eq k ok h0 h1 h2 h3 hl hk, Option.bind_some, play_eq k ok1 (by decide) (by decide) (by decide) (by decide) (by decide) hk, Option.bind_some, e1, if_pos rfl, if_pos (by rw [passes_len])]
  rfl

/-- Packets as they are drawn: how late the last one is at most. -/
structure Made (ps : List Pk) (t : Int) : Prop where
  ok : Ok ps
  late : ∀ i, i < ps.length → pat ps i ≤ t
  t0 : 0 ≤ t
  t1 : t ≤ 12 * ps.length
theorem getD_last (ps : List Pk) (p : Pk) (i : Nat) : (ps ++ [p]).getD i z50 = if i < ps.length then ps.getD i z50 else if i = ps.length then p else z50 := by
  by_cases h : i < ps.length
  · rw [if_pos h]; simp [List.getD_eq_getElem?_getD, List.getElem?_append_left h]
  · rw [if_neg h]
    by_cases g : i = ps.length
    · subst g; simp
    · rw [if_neg g]; simp [List.getD_eq_getElem?_getD]; rw [List.getElem?_append_right (by omega), List.getElem?_eq_none (by simp; omega)]; rfl
theorem pat_old (ps : List Pk) (p : Pk) {i : Nat} (h : i < ps.length) : pat (ps ++ [p]) i = pat ps i := by unfold pat; rw [getD_last, if_pos h]
theorem psz_old (ps : List Pk) (p : Pk) {i : Nat} (h : i < ps.length) : psz (ps ++ [p]) i = psz ps i := by unfold psz; rw [getD_last, if_pos h]
theorem pat_new (ps : List Pk) (p : Pk) : pat (ps ++ [p]) ps.length = p.f0 := by unfold pat; rw [getD_last, if_neg (by omega), if_pos rfl]
theorem psz_new (ps : List Pk) (p : Pk) : psz (ps ++ [p]) ps.length = p.f1 := by unfold psz; rw [getD_last, if_neg (by omega), if_pos rfl]
theorem Ok.snoc {ps : List Pk} (h : Ok ps) {p : Pk} (h0 : 0 ≤ p.f0) (h1 : p.f0 ≤ 1048576) (h2 : 1 ≤ p.f1) (h3 : p.f1 ≤ 1500) (hu : ∀ i, i + 1 = ps.length → pat ps i ≤ p.f0) : Ok (ps ++ [p]) := by
  have hlen : (ps ++ [p]).length = ps.length + 1 := by simp
  constructor
  · intro i hi
    by_cases c : i < ps.length
    · rw [pat_old _ _ c]; exact h.at0 i c
    · obtain rfl : i = ps.length := by omega
      rw [pat_new]; exact ⟨h0, h1⟩
  · intro i hi
    by_cases c : i < ps.length
    · rw [psz_old _ _ c]; exact h.sz i c
    · obtain rfl : i = ps.length := by omega
      rw [psz_new]; exact ⟨h2, h3⟩
  · intro i hi
    by_cases c : i + 1 < ps.length
    · rw [pat_old _ _ (show i < ps.length by omega), pat_old _ _ c]; exact h.up i c
    · have hh : i + 1 = ps.length := by omega
      rw [hh, pat_new, pat_old _ _ (show i < ps.length by omega)]
      exact hu i hh
theorem packets_loop (l : List Int) (n : Nat) (hn : n ≤ 200) (d : Nat) : ∀ (k i : Nat) (ps : List Pk) (t : Int), i + d = n → 2 * d + 2 ≤ k → ps.length = i → Made ps t →
    ∃ qs t', packthreadkeep_Packets.l0 k l n ps t i = some qs ∧ Made qs t' ∧ qs.length ≤ n := by
  induction d with
  | zero =>
    intro k i ps t hi hk hlen m
    obtain ⟨k, rfl⟩ : ∃ m, k = m + 2 := ⟨k - 2, by omega⟩
    refine ⟨ps, t, ?_, m, by omega⟩
    rw [packthreadkeep_Packets.l0]
    by_cases h : (i : Int) < l.length
    · rw [if_pos h, decide_eq_false (by omega), packthreadkeep_Packets.j1, if_neg (by decide)]
    · rw [if_neg h, packthreadkeep_Packets.j1, if_neg (by decide)]
  | succ d ih =>
    intro k i ps t hi hk hlen m
    obtain ⟨k, rfl⟩ : ∃ m, k = m + 2 := ⟨k - 2, by omega⟩
    rw [packthreadkeep_Packets.l0]
    by_cases h : (i : Int) < l.length
    · have e1 : ((i : Int) + 1) = ((i + 1 : Nat) : Int) := by omega
      have a0 : 0 ≤ rd l i % 12 ∧ rd l i % 12 < 12 := by omega
      have b0 : 0 ≤ wrap64 (Int.tdiv (rd l i) 12) % 300 ∧ wrap64 (Int.tdiv (rd l i) 12) % 300 < 300 := by omega
      have t1 := m.t1
      have t0 := m.t0
      rw [if_pos h, decide_eq_true (by omega), packthreadkeep_Packets.j1, if_pos rfl, if_pos (by omega), if_pos h, picked_eq _ _ (by decide) (by decide), Option.bind_some, picked_eq _ _ (by decide) (by decide), Option.bind_some, if_pos (by omega)]
      generalize rd l i % 12 = a at *
      generalize wrap64 (Int.tdiv (rd l i) 12) % 300 = b at *
      rw [wrap64_id (x := t + a) (by omega) (by omega), wrap64_id (x := 1 + b) (by omega) (by omega), wrap64_id (by omega) (by omega), e1]
      have hlen2 : (ps ++ [(⟨t + a, 1 + b⟩ : Pk)]).length = ps.length + 1 := by simp
      refine ih k (i + 1) (ps ++ [⟨t + a, 1 + b⟩]) (t + a) (by omega) (by omega) (by omega) ⟨?_, ?_, by omega, by rw [hlen2]; omega⟩
      · exact m.ok.snoc (by show 0 ≤ t + a; omega) (by show t + a ≤ _; omega) (by show 1 ≤ 1 + b; omega) (by show 1 + b ≤ _; omega) (fun j hj => by have := m.late j (by omega); show _ ≤ t + a; omega)
      · intro j hj
        by_cases c : j < ps.length
        · rw [pat_old _ _ c]; have := m.late j c; omega
        · obtain rfl : j = ps.length := by omega
          rw [pat_new]; exact Int.le_refl _
    · refine ⟨ps, t, ?_, m, by omega⟩
      rw [if_neg h, packthreadkeep_Packets.j1, if_neg (by decide)]
theorem packets_eq (k : Nat) (l : List Int) (n : Nat) (hn : n ≤ 200) (hk : 2 * n + 2 ≤ k) : ∃ qs t', packthreadkeep_Packets.f k l n = some qs ∧ Made qs t' ∧ qs.length ≤ n :=
  packets_loop l n hn n k 0 [] 0 (by omega) hk rfl ⟨⟨fun i h => by simp at h, fun i h => by simp at h, fun i h => by simp at h⟩, fun i h => by simp at h, by decide, by simp⟩

theorem slow_at (r u : Int) (n i : Nat) (h : i < n) : ((List.range n).map fun j : Nat => (⟨(j : Int), mn r u⟩ : Pk)).getD i z50 = ⟨(i : Int), mn r u⟩ := by
  simp [List.getD_eq_getElem?_getD, List.getElem?_map, List.getElem?_range h]
def slow (r u : Int) (n : Nat) : List Pk := (List.range n).map fun j : Nat => ⟨(j : Int), mn r u⟩
theorem slow_len (r u : Int) (n : Nat) : (slow r u n).length = n := by simp [slow]
theorem slow_pat (r u : Int) (n i : Nat) (h : i < n) : pat (slow r u n) i = i := by unfold pat slow; rw [slow_at r u n i h]
theorem slow_psz (r u : Int) (n i : Nat) (h : i < n) : psz (slow r u n) i = mn r u := by unfold psz slow; rw [slow_at r u n i h]
theorem slow_ok {r u : Int} (n : Nat) (hn : n ≤ 200) (hr : 1 ≤ r) (hr2 : r ≤ 60) (hu : 1 ≤ u) : Ok (slow r u n) := by
  have hm := mn_cases r u
  constructor
  · intro i hi; rw [slow_len] at hi; rw [slow_pat r u n i hi]; omega
  · intro i hi; rw [slow_len] at hi; rw [slow_psz r u n i hi]; omega
  · intro i hi; rw [slow_len] at hi; rw [slow_pat r u n i (by omega), slow_pat r u n (i + 1) hi]; omega
theorem slow_pass {r u : Int} (n : Nat) (hn : n ≤ 200) (hr : 1 ≤ r) (hr2 : r ≤ 60) (hu : 1 ≤ u) (i : Nat) (hi : i < n) : pass r u (slow r u n) i = true := by
  have ok := slow_ok n hn hr hr2 hu
  have hm := mn_cases r u
  unfold pass
  rw [slow_psz r u n i hi]
  apply decide_eq_true
  cases i with
  | zero => show mn r u ≤ u; omega
  | succ i =>
    have hc := ca_range (r := r) (u := u) ok (by omega) (by omega) i (by rw [slow_len]; omega)
    have m := mn_cases u (ca r u (slow r u n) i + r * (pat (slow r u n) (i + 1) - pat (slow r u n) i))
    rw [cb_succ]
    rw [slow_pat r u n i (by omega), slow_pat r u n (i + 1) hi] at m ⊢
    rw [show (((i + 1 : Nat) : Int) - (i : Int)) = 1 by omega, Int.mul_one] at m ⊢
    omega
theorem all_loop (r u : Int) (ps : List Pk) (hp : ∀ i, i < ps.length → pass r u ps i = true) (hl : ps.length ≤ 300) (d : Nat) : ∀ (k i : Nat), i + d = ps.length → d + 1 ≤ k → packthreadkeep_BucketRests.l1 k (passes r u ps) i = some true := by
  induction d with
  | zero =>
    intro k i hi hk
    obtain ⟨k, rfl⟩ : ∃ m, k = m + 1 := ⟨k - 1, by omega⟩
    rw [packthreadkeep_BucketRests.l1, if_neg (by rw [passes_len]; omega)]
  | succ d ih =>
    intro k i hi hk
    obtain ⟨k, rfl⟩ : ∃ m, k = m + 1 := ⟨k - 1, by omega⟩
    rw [packthreadkeep_BucketRests.l1, if_pos (by rw [passes_len]; omega), if_pos (by omega), passes_at r u ps i (by omega), if_pos (hp i (by omega)), wrap64_id (by omega) (by omega), show ((i : Int) + 1) = ((i + 1 : Nat) : Int) by omega]
    exact ih k (i + 1) (by omega) (by omega)
theorem slow_loop {r u : Int} (hr : 1 ≤ r) (hr2 : r ≤ 60) (hu : 1 ≤ u) (hu2 : u ≤ 900) (p : List Bool) (hp0 : 0 < p.length) (hp1 : p.length ≤ 1000) (hp : rdOf false p ((p.length : Int) - 1) = true) (d : Nat) : ∀ (k i : Nat), i + d = 100 → d + 2000 ≤ k →
    packthreadkeep_BucketRests.l0 k r u p true (slow r u i) i = some true := by
  induction d with
  | zero =>
    intro k i hi hk
    obtain ⟨k, rfl⟩ : ∃ m, k = m + 2 := ⟨k - 2, by omega⟩
    obtain rfl : i = 100 := by omega
    have ok := slow_ok (r := r) (u := u) 100 (by decide) hr hr2 hu
    rw [packthreadkeep_BucketRests.l0, if_neg (by omega), bucketed_eq (k + 1) ok (by omega) (by omega) (by omega) (by omega) (by rw [slow_len]; decide) (by omega), Option.bind_some, if_pos rfl, if_pos rfl, wrap64_id (by omega) (by omega), if_pos (by omega), if_pos (by omega), hp,
      packthreadkeep_BucketRests.j2, if_neg (by decide)]
    exact all_loop r u (slow r u 100) (fun i hi => slow_pass 100 (by decide) hr hr2 hu i (by rw [slow_len] at hi; exact hi)) (by rw [slow_len]; decide) 100 k 0 (by rw [slow_len]) (by omega)
  | succ d ih =>
    intro k i hi hk
    obtain ⟨k, rfl⟩ : ∃ m, k = m + 1 := ⟨k - 1, by omega⟩
    have e : slow r u i ++ [⟨(i : Int), mn r u⟩] = slow r u (i + 1) := by unfold slow; rw [List.range_succ]; simp
    rw [packthreadkeep_BucketRests.l0, if_pos (by omega), if_pos (by rw [slow_len]; omega), e, wrap64_id (by omega) (by omega), show ((i : Int) + 1) = ((i + 1 : Nat) : Int) by omega]
    exact ih k (i + 1) (by omega) (by omega)
theorem rested {r u : Int} (hr : 1 ≤ r) (hr2 : r ≤ 60) (hu : 1 ≤ u) (hu2 : u ≤ 900) {ps : List Pk} {t0 : Int} (m : Made ps t0) (hl : ps.length ≤ 100) (a3 t : Int) (h0 : 0 ≤ t) (ht : t ≤ 10000) (hup : ∀ i, i + 1 = ps.length → t = u / r + 1 + pat ps i) (k : Nat) (hk : 3000 ≤ k) :
    packthreadkeep_BucketRests.j0 (k + 1) a3 r u ps t = some true := by
  have hq0 : 0 ≤ u / r := Int.ediv_nonneg (by omega) (by omega)
  have hs : 0 ≤ a3 % u ∧ a3 % u < u := ⟨Int.emod_nonneg _ (by omega), Int.emod_lt_of_pos _ (by omega)⟩
  rw [packthreadkeep_BucketRests.j0, picked_eq _ _ (by omega) (by omega), Option.bind_some, if_pos (by simp; omega), List.nil_append, Option.bind_some, if_pos (by omega), wrap64_id (by omega) (by omega)]
  generalize a3 % u = s at *
  have ok : Ok (ps ++ [(⟨t, 1 + s⟩ : Pk)]) := m.ok.snoc h0 (by show t ≤ _; omega) (by show 1 ≤ 1 + s; omega) (by show 1 + s ≤ _; omega) (fun i hi => by have := hup i hi; show _ ≤ t; omega)
  have hlen : (ps ++ [(⟨t, 1 + s⟩ : Pk)]).length = ps.length + 1 := by simp
  have hpass : pass r u (ps ++ [(⟨t, 1 + s⟩ : Pk)]) ps.length = true := by
    unfold pass
    rw [psz_new]
    apply decide_eq_true
    show 1 + s ≤ _
    cases hz : ps.length with
    | zero => show 1 + s ≤ u; omega
    | succ j =>
      have hca := ca_range (r := r) (u := u) ok (by omega) (by omega) j (by omega)
      have mm := mn_cases u (ca r u (ps ++ [(⟨t, 1 + s⟩ : Pk)]) j + r * (pat (ps ++ [(⟨t, 1 + s⟩ : Pk)]) (j + 1) - pat (ps ++ [(⟨t, 1 + s⟩ : Pk)]) j))
      rw [cb_succ]
      have e1 : pat (ps ++ [(⟨t, 1 + s⟩ : Pk)]) (j + 1) = t := by rw [← hz, pat_new]
      have e2 : pat (ps ++ [(⟨t, 1 + s⟩ : Pk)]) j = pat ps j := pat_old _ _ (by omega)
      rw [e1, e2] at mm ⊢
      have e3 : t - pat ps j = u / r + 1 := by have := hup j hz.symm; omega
      have e4 : r * (u / r + 1) = r * (u / r) + r := by rw [Int.mul_add, Int.mul_one]
      have e5 := Int.mul_ediv_add_emod u r
      have e6 := Int.emod_lt_of_pos u (show 0 < r by omega)
      rw [e3, e4] at mm ⊢
      omega
  rw [bucketed_eq k ok (by omega) (by omega) (by omega) (by omega) (by omega) (by omega), Option.bind_some]
  refine slow_loop hr hr2 hu hu2 _ (by rw [passes_len]; omega) (by rw [passes_len]; omega) ?_ 100 k 0 (by omega) (by omega)
  rw [passes_len, hlen, show (((ps.length + 1 : Nat) : Int) - 1) = (ps.length : Int) by omega, passes_at _ _ _ _ (by omega)]
  exact hpass

/-- YOURS -/
theorem BucketRests : packthreadkeep_BucketRests.Pure := by
  intro a0 a1 l a3 _ _ _ _ _ _
  obtain ⟨k, hk⟩ : ∃ k, 3000 ≤ k := ⟨3000, Nat.le_refl _⟩
  refine ⟨k + 1, ?_⟩
  obtain ⟨ps, t, e, m, hl⟩ := packets_eq (k + 1) l 100 (by decide) (by omega)
  have hr : 0 ≤ a0 % 60 ∧ a0 % 60 < 60 := by omega
  have hu : 0 ≤ a1 % 900 ∧ a1 % 900 < 900 := by omega
  unfold packthreadkeep_BucketRests.f
  rw [picked_eq _ _ (by decide) (by decide), Option.bind_some, picked_eq _ _ (by decide) (by decide), Option.bind_some, show (100 : Int) = ((100 : Nat) : Int) from rfl, e, Option.bind_some, wrap64_id (x := 1 + a0 % 60) (by omega) (by omega), wrap64_id (x := 1 + a1 % 900) (by omega) (by omega)]
  obtain ⟨r, hr'⟩ : ∃ r, r = 1 + a0 % 60 := ⟨_, rfl⟩
  obtain ⟨u, hu'⟩ : ∃ u, u = 1 + a1 % 900 := ⟨_, rfl⟩
  rw [← hr', ← hu', if_neg (by omega), Int.tdiv_eq_ediv_of_nonneg (by omega)]
  have hq0 : 0 ≤ u / r := Int.ediv_nonneg (by omega) (by omega)
  have hq1 : u / r ≤ u := Int.ediv_le_self _ (by omega)
  have ht0 := m.t0
  have ht1 := m.t1
  rw [wrap64_id (x := u / r) (by omega) (by omega), wrap64_id (x := u / r + 1) (by omega) (by omega)]
  by_cases z : (ps.length : Int) > 0
  · have hlast := m.late (ps.length - 1) (by omega)
    have h0 := m.ok.at0 (ps.length - 1) (by omega)
    have ra : (rd_T50 ps ((ps.length - 1 : Nat) : Int)).f0 = pat ps (ps.length - 1) := rfl
    rw [if_pos z, wrap64_id (x := (ps.length : Int) - 1) (by omega) (by omega), if_pos (by omega), if_pos (by omega), show ((ps.length : Int) - 1) = ((ps.length - 1 : Nat) : Int) by omega, ra, wrap64_id (by omega) (by omega)]
    exact rested (by omega) (by omega) (by omega) (by omega) m (by omega) a3 _ (by omega) (by omega) (fun i hi => by rw [show ps.length - 1 = i by omega]) k hk
  · rw [if_neg z]
    exact rested (by omega) (by omega) (by omega) (by omega) m (by omega) a3 _ (by omega) (by omega) (fun i hi => by omega) k hk

end Go.Proofs.Ytfckgffeoepaaaa.Pure
