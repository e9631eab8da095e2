/- Proved: for every input the law BucketLater answers true: when all comes as much later the same passes, and packets that do not pass change nothing. Condition: none (all integers, every list of integers). -/
import Derived.Test.YtfckgffeoepaaaaPBucketLaterx3
namespace Go.Proofs.Ytfckgffeoepaaaa.Pure
open Go.RowKit Go.Proofs.Ytfckgffeoepaaaa.PBucketLater Go.Proofs.YtfckgffeoepaaaaW.PrintWords Go.Proofs.YtfckgffeoepaaaaW.PrintLast
set_option linter.unusedVariables false

theorem wrap64_id {x : Int} (h0 : -9223372036854775808 ≤ x) (h1 : x ≤ 9223372036854775807) : wrap64 x = x := by unfold wrap64; omega

theorem picked_eq (a n : Int) (h0 : 0 < n) (h1 : n ≤ 1000000000000) : packthreadkeep_Picked.f a n = some (a % n) := by
  unfold packthreadkeep_Picked.f
  rw [if_neg (by omega)]
  have hm := Int.tmod_eq_emod (a := a) (b := n)
  have hlo := Int.emod_nonneg a (show n ≠ 0 by omega)
  have hhi := Int.emod_lt_of_pos a h0
  by_cases hc : 0 ≤ a ∨ n ∣ a
  · rw [if_pos hc] at hm
    have e : a.tmod n = a % n := by rw [hm]; simp
    rw [e, if_neg (by omega)]
  · rw [if_neg hc] at hm
    have e : a.tmod n = a % n - n := by rw [hm]; congr 1; omega
    rw [e, if_pos (by omega), wrap64_id (by omega) (by omega)]
    congr 1; omega

abbrev Pk := S50
def pat (ps : List Pk) (i : Nat) : Int := (ps.getD i z50).f0
def psz (ps : List Pk) (i : Nat) : Int := (ps.getD i z50).f1
/-- Packets that may be: within the limits, in their order. -/
structure Ok (ps : List Pk) : Prop where
  at0 : ∀ i, i < ps.length → 0 ≤ pat ps i ∧ pat ps i ≤ 1048576
  sz : ∀ i, i < ps.length → 1 ≤ psz ps i ∧ psz ps i ≤ 1500
  up : ∀ i, i + 1 < ps.length → pat ps i ≤ pat ps (i + 1)
theorem mn_cases (a b : Int) : (b < a ∧ mn a b = b) ∨ (a ≤ b ∧ mn a b = a) := by
  unfold mn; by_cases h : b < a
  · rw [if_pos h]; exact .inl ⟨h, rfl⟩
  · rw [if_neg h]; exact .inr ⟨by omega, rfl⟩
/-- The credit when a packet comes. -/
def cb (r u : Int) (ps : List Pk) : Nat → Int
  | 0 => u
  | i + 1 => mn u ((if psz ps i ≤ cb r u ps i then cb r u ps i - psz ps i else cb r u ps i) + r * (pat ps (i + 1) - pat ps i))
/-- The credit behind it. -/
def ca (r u : Int) (ps : List Pk) (i : Nat) : Int := if psz ps i ≤ cb r u ps i then cb r u ps i - psz ps i else cb r u ps i
theorem cb_succ (r u : Int) (ps : List Pk) (i : Nat) : cb r u ps (i + 1) = mn u (ca r u ps i + r * (pat ps (i + 1) - pat ps i)) := rfl
def pass (r u : Int) (ps : List Pk) (i : Nat) : Bool := decide (psz ps i ≤ cb r u ps i)
theorem ca_le {r u : Int} {ps : List Pk} (i : Nat) (hs : 0 ≤ psz ps i) : ca r u ps i ≤ cb r u ps i := by unfold ca; split <;> omega
theorem cb_range {r u : Int} {ps : List Pk} (ok : Ok ps) (hr : 0 ≤ r) (hu : 0 ≤ u) : ∀ i, i < ps.length → 0 ≤ cb r u ps i ∧ cb r u ps i ≤ u
  | 0, _ => ⟨hu, Int.le_refl _⟩
  | i + 1, h => by
    have h1 := cb_range ok hr hu i (by omega)
    have h2 := Int.mul_nonneg hr (show 0 ≤ pat ps (i + 1) - pat ps i by have := ok.up i h; omega)
    have h3 := ok.sz i (by omega)
    rw [cb_succ]
    have h4 : 0 ≤ ca r u ps i := by unfold ca; split <;> omega
    have := mn_cases u (ca r u ps i + r * (pat ps (i + 1) - pat ps i))
    omega
theorem ca_range {r u : Int} {ps : List Pk} (ok : Ok ps) (hr : 0 ≤ r) (hu : 0 ≤ u) (i : Nat) (h : i < ps.length) : 0 ≤ ca r u ps i ∧ ca r u ps i ≤ u := by
  have h1 := cb_range ok hr hu i h
  have h3 := ok.sz i h
  unfold ca; split <;> omega
theorem in_eq {x l h : Int} (h0 : l ≤ x) (h1 : x ≤ h) : bucket_in.f x l h = some true := by
  unfold bucket_in.f; rw [if_pos h0, decide_eq_true h1]
theorem may_eq {r u : Int} (h0 : 0 ≤ r) (h1 : r ≤ 1000) (h2 : 0 ≤ u) (h3 : u ≤ 100000) : bucket_may.f r u = some true := by
  unfold bucket_may.f
  rw [in_eq h0 h1, Option.bind_some, if_pos rfl, in_eq h2 h3, Option.bind_some]
theorem step_eq {r u : Int} {ps : List Pk} (ok : Ok ps) (h0 : 0 ≤ r) (h1 : r ≤ 1000) (h2 : 0 ≤ u) (h3 : u ≤ 100000) (hl : ps.length ≤ 300) (k i : Nat) (hi : i < ps.length) (c l : Int)
    (hc : c = if i = 0 then u else ca r u ps (i - 1)) (hlast : l = if i = 0 then 0 else pat ps (i - 1)) :
    bucket_Play.l0 (k + 3) r u ((List.range i).map (pass r u ps)) c l ps (ps.length : Int) i = bucket_Play.l0 k r u ((List.range (i + 1)).map (pass r u ps)) (ca r u ps i) (pat ps i) ps (ps.length : Int) ((i + 1 : Nat) : Int) := by
  have ha := ok.at0 i hi
  have hs := ok.sz i hi
  have hb := cb_range ok h0 h2 i hi
  have e1 : ((i : Int) + 1) = ((i + 1 : Nat) : Int) := by omega
  have ra : (rd_T50 ps (i : Int)).f0 = pat ps i := rfl
  have rs : (rd_T50 ps (i : Int)).f1 = psz ps i := rfl
  have hr1 : (List.range (i + 1)).map (pass r u ps) = (List.range i).map (pass r u ps) ++ [pass r u ps i] := by rw [List.range_succ]; simp
  rw [bucket_Play.l0, if_pos (by omega), if_pos (by omega), if_pos (by omega), ra, rs, in_eq ha.1 ha.2, Option.bind_some, if_pos rfl, in_eq hs.1 hs.2, Option.bind_some, bucket_Play.j1, if_neg (by decide)]
  have key : bucket_Play.j2 (k + 1) r u ((List.range i).map (pass r u ps)) c l i ps (ps.length : Int) i (pat ps i) (psz ps i) = bucket_Play.l0 k r u ((List.range (i + 1)).map (pass r u ps)) (ca r u ps i) (pat ps i) ps (ps.length : Int) ((i + 1 : Nat) : Int) := by
    rw [bucket_Play.j2, hr1]
    have hpass : pass r u ps i = decide (psz ps i ≤ cb r u ps i) := rfl
    have hlen : ((List.range i).map (pass r u ps)).length < 140737488355328 := by simp; omega
    cases i with
    | zero =>
      rw [if_pos rfl] at hc
      subst hc
      rw [if_neg (by omega)]
      have e : cb r c ps 0 = c := rfl
      unfold ca
      rw [hpass, e]
      by_cases g : psz ps 0 ≤ c
      · rw [if_pos g, if_pos hlen, if_pos g, decide_eq_true g, wrap64_id (by omega) (by omega), wrap64_id (by omega) (by omega)]; rfl
      · rw [if_neg g, if_pos hlen, if_neg g, decide_eq_false g, wrap64_id (by omega) (by omega)]; rfl
    | succ i =>
      rw [if_neg (by omega)] at hc hlast
      rw [show i + 1 - 1 = i by omega] at hc hlast
      have hca := ca_range ok h0 h2 i (by omega)
      have hat := ok.at0 i (by omega)
      have hup := ok.up i hi
      subst hc hlast
      have p1 := Int.mul_nonneg h0 (show 0 ≤ pat ps (i + 1) - pat ps i by omega)
      have p2 := Int.mul_le_mul h1 (show pat ps (i + 1) - pat ps i ≤ 1048576 by omega) (by omega) (by decide)
      have e : mn u (wrap64 (ca r u ps i + (wrap64 (r * (wrap64 (pat ps (i + 1) - pat ps i)))))) = cb r u ps (i + 1) := by
        rw [cb_succ, wrap64_id (x := pat ps (i + 1) - pat ps i) (by omega) (by omega), wrap64_id (x := r * (pat ps (i + 1) - pat ps i)) (by omega) (by omega), wrap64_id (by omega) (by omega)]
      rw [if_pos (by omega), e, hpass]
      unfold ca
      by_cases g : psz ps (i + 1) ≤ cb r u ps (i + 1)
      · rw [if_pos g, if_pos hlen, if_pos g, decide_eq_true g, wrap64_id (by omega) (by omega), wrap64_id (by omega) (by omega), e1]
      · rw [if_neg g, if_pos hlen, if_neg g, decide_eq_false g, wrap64_id (by omega) (by omega), e1]
  by_cases g : (i : Int) > 0
  · rw [if_pos g, if_neg ?_, key]
    rw [hlast, if_neg (by omega)]
    have := ok.up (i - 1) (by omega)
    rw [show i - 1 + 1 = i by omega] at this
    omega
  · rw [if_neg g, key]
theorem play_loop {r u : Int} {ps : List Pk} (ok : Ok ps) (h0 : 0 ≤ r) (h1 : r ≤ 1000) (h2 : 0 ≤ u) (h3 : u ≤ 100000) (hl : ps.length ≤ 300) (d : Nat) : ∀ (k i : Nat) (c l : Int), i + d = ps.length → 3 * d + 1 ≤ k →
    (c = if i = 0 then u else ca r u ps (i - 1)) → (l = if i = 0 then 0 else pat ps (i - 1)) →
    bucket_Play.l0 k r u ((List.range i).map (pass r u ps)) c l ps (ps.length : Int) i = some ((List.range ps.length).map (pass r u ps), 0) := by
  induction d with
  | zero =>
    intro k i c l hi hk _ _
    obtain ⟨k, rfl⟩ : ∃ m, k = m + 1 := ⟨k - 1, by omega⟩
    obtain rfl : i = ps.length := by omega
    rw [bucket_Play.l0, if_neg (by omega)]
  | succ d ih =>
    intro k i c l hi hk hc hla
    obtain ⟨k, rfl⟩ : ∃ m, k = m + 3 := ⟨k - 3, by omega⟩
    rw [step_eq ok h0 h1 h2 h3 hl k i (by omega) c l hc hla]
    exact ih k (i + 1) _ _ (by omega) (by omega) (by rw [if_neg (by omega)]; rfl) (by rw [if_neg (by omega)]; rfl)
def passes (r u : Int) (ps : List Pk) : List Bool := (List.range ps.length).map (pass r u ps)
theorem play_eq {r u : Int} {ps : List Pk} (k : Nat) (ok : Ok ps) (h0 : 0 ≤ r) (h1 : r ≤ 1000) (h2 : 0 ≤ u) (h3 : u ≤ 100000) (hl : ps.length ≤ 300) (hk : 1000 ≤ k) : bucket_Play.f k r u ps = some (passes r u ps, 0) := by
  unfold bucket_Play.f
  rw [may_eq h0 h1 h2 h3, Option.bind_some, if_pos rfl, if_neg (by omega)]
  exact play_loop ok h0 h1 h2 h3 hl ps.length k 0 u 0 (by omega) (by omega) rfl rfl
theorem passes_len (r u : Int) (ps : List Pk) : (passes r u ps).length = ps.length := by simp [passes]
theorem passes_at (r u : Int) (ps : List Pk) (i : Nat) (h : i < ps.length) : rdOf false (passes r u ps) (i : Int) = pass r u ps i := by
  simp [rdOf, passes, List.getD_eq_getElem?_getD, List.getElem?_map, List.getElem?_range h]
theorem bucketed_eq {r u : Int} {ps : List Pk} (k : Nat) (ok : Ok ps) (h0 : 0 ≤ r) (h1 : r ≤ 1000) (h2 : 0 ≤ u) (h3 : u ≤ 100000) (hl : ps.length ≤ 300) (hk : 1000 ≤ k) : packthreadkeep_bucketed.f k r u ps = some (passes r u ps, true) := by
  have ok1 : Ok ([⟨0, 5⟩, ⟨0, 1⟩, ⟨1, 1⟩] : List Pk) := by
    constructor
    · intro i hi
      have : i = 0 ∨ i = 1 ∨ i = 2 := by simp at hi; omega
      rcases this with rfl | rfl | rfl <;> decide
    · intro i hi
      have : i = 0 ∨ i = 1 ∨ i = 2 := by simp at hi; omega
      rcases this with rfl | rfl | rfl <;> decide
    · intro i hi
      have : i = 0 ∨ i = 1 := by simp at hi; omega
      rcases this with rfl | rfl <;> decide
  have e1 : passes 1 5 ([⟨0, 5⟩, ⟨0, 1⟩, ⟨1, 1⟩] : List Pk) = [true, false, true] := by decide
  unfold packthreadkeep_bucketed.f
  rw [if_pos (by simp; omega), List.nil_append, play_eq k ok h0 h1 h2 h3 hl hk, Option.bind_some, play_eq k ok1 (by decide) (by decide) (by decide) (by decide) (by decide) hk, Option.bind_some, e1, if_pos rfl, if_pos (by rw [passes_len])]
  rfl

/-- Packets as they are drawn: how late the last one is at most. -/
structure Made (ps : List Pk) (t : Int) : Prop where
  ok : Ok ps
  late : ∀ i, i < ps.length → pat ps i ≤ t
  t0 : 0 ≤ t
  t1 : t ≤ 12 * ps.length
theorem getD_last (ps : List Pk) (p : Pk) (i : Nat) : (ps ++ [p]).getD i z50 = if i < ps.length then ps.getD i z50 else if i = ps.length then p else z50 := by
  by_cases h : i < ps.length
  · rw [if_pos h]; simp [List.getD_eq_getElem?_getD, List.getElem?_append_left h]
  · rw [if_neg h]
    by_cases g : i = ps.length
    · subst g; simp
    · rw [if_neg g]; simp [List.getD_eq_getElem?_getD]; rw [List.getElem?_append_right (by omega), List.getElem?_eq_none (by simp; omega)]; rfl
theorem pat_old (ps : List Pk) (p : Pk) {i : Nat} (h : i < ps.length) : pat (ps ++ [p]) i = pat ps i := by unfold pat; rw [getD_last, if_pos h]
theorem psz_old (ps : List Pk) (p : Pk) {i : Nat} (h : i < ps.length) : psz (ps ++ [p]) i = psz ps i := by unfold psz; rw [getD_last, if_pos h]
theorem pat_new (ps : List Pk) (p : Pk) : pat (ps ++ [p]) ps.length = p.f0 := by unfold pat; rw [getD_last, if_neg (by omega), if_pos rfl]
theorem psz_new (ps : List Pk) (p : Pk) : psz (ps ++ [p]) ps.length = p.f1 := by unfold psz; rw [getD_last, if_neg (by omega), if_pos rfl]
theorem Ok.snoc {ps : List Pk} (h : Ok ps) {p : Pk} (h0 : 0 ≤ p.f0) (h1 : p.f0 ≤ 1048576) (h2 : 1 ≤ p.f1) (h3 : p.f1 ≤ 1500) (hu : ∀ i, i + 1 = ps.length → pat ps i ≤ p.f0) : Ok (ps ++ [p]) := by
  have hlen : (ps ++ [p]).length = ps.length + 1 := by simp
  constructor
  · intro i hi
    by_cases c : i < ps.length
    · rw [pat_old _ _ c]; exact h.at0 i c
    · obtain rfl : i = ps.length := by omega
      rw [pat_new]; exact ⟨h0, h1⟩
  · intro i hi
    by_cases c : i < ps.length
    · rw [psz_old _ _ c]; exact h.sz i c
    · obtain rfl : i = ps.length := by omega
      rw [psz_new]; exact ⟨h2, h3⟩
  · intro i hi
    by_cases c : i + 1 < ps.length
    · rw [pat_old _ _ (show i < ps.length by omega), pat_old _ _ c]; exact h.up i c
    · have hh : i + 1 = ps.length := by omega
      rw [hh, pat_new, pat_old _ _ (show i < ps.length by omega)]
      exact hu i hh
theorem packets_loop (l : List Int) (n : Nat) (hn : n ≤ 200) (d : Nat) : ∀ (k i : Nat) (ps : List Pk) (t : Int), i + d = n → 2 * d + 2 ≤ k → ps.length = i → Made ps t →
    ∃ qs t', packthreadkeep_Packets.l0 k l n ps t i = some qs ∧ Made qs t' ∧ qs.length ≤ n := by
  induction d with
  | zero =>
    intro k i ps t hi hk hlen m
    obtain ⟨k, rfl⟩ : ∃ m, k = m + 2 := ⟨k - 2, by omega⟩
    refine ⟨ps, t, ?_, m, by omega⟩
    rw [packthreadkeep_Packets.l0]
    by_cases h : (i : Int) < l.length
    · rw [if_pos h, decide_eq_false (by omega), packthreadkeep_Packets.j1, if_neg (by decide)]
    · rw [if_neg h, packthreadkeep_Packets.j1, if_neg (by decide)]
  | succ d ih =>
    intro k i ps t hi hk hlen m
    obtain ⟨k, rfl⟩ : ∃ m, k = m + 2 := ⟨k - 2, by omega⟩
    rw [packthreadkeep_Packets.l0]
    by_cases h : (i : Int) < l.length
    · have e1 : ((i : Int) + 1) = ((i + 1 : Nat) : Int) := by omega
      have a0 : 0 ≤ rd l i % 12 ∧ rd l i % 12 < 12 := by omega
      have b0 : 0 ≤ wrap64 (Int.tdiv (rd l i) 12) % 300 ∧ wrap64 (Int.tdiv (rd l i) 12) % 300 < 300 := by omega
      have t1 := m.t1
      have t0 := m.t0
      rw [if_pos h, decide_eq_true (by omega), packthreadkeep_Packets.j1, if_pos rfl, if_pos (by omega), if_pos h, picked_eq _ _ (by decide) (by decide), Option.bind_some, picked_eq _ _ (by decide) (by decide), Option.bind_some, if_pos (by omega)]
      generalize rd l i % 12 = a at *
      generalize wrap64 (Int.tdiv (rd l i) 12) % 300 = b at *
      rw [wrap64_id (x := t + a) (by omega) (by omega), wrap64_id (x := 1 + b) (by omega) (by omega), wrap64_id (by omega) (by omega), e1]
      have hlen2 : (ps ++ [(⟨t + a, 1 + b⟩ : Pk)]).length = ps.length + 1 := by simp
      refine ih k (i + 1) (ps ++ [⟨t + a, 1 + b⟩]) (t + a) (by omega) (by omega) (by omega) ⟨?_, ?_, by omega, by rw [hlen2]; omega⟩
      · exact m.ok.snoc (by show 0 ≤ t + a; omega) (by show t + a ≤ _; omega) (by show 1 ≤ 1 + b; omega) (by show 1 + b ≤ _; omega) (fun j hj => by have := m.late j (by omega); show _ ≤ t + a; omega)
      · intro j hj
        by_cases c : j < ps.length
        · rw [pat_old _ _ c]; have := m.late j c; omega
        · obtain rfl : j = ps.length := by omega
          rw [pat_new]; exact Int.le_refl _
    · refine ⟨ps, t, ?_, m, by omega⟩
      rw [if_neg h, packthreadkeep_Packets.j1, if_neg (by decide)]
theorem packets_eq (k : Nat) (l : List Int) (n : Nat) (hn : n ≤ 200) (hk : 2 * n + 2 ≤ k) : ∃ qs t', packthreadkeep_Packets.f k l n = some qs ∧ Made qs t' ∧ qs.length ≤ n :=
  packets_loop l n hn n k 0 [] 0 (by omega) hk rfl ⟨⟨fun i h => by simp at h, fun i h => by simp at h, fun i h => by simp at h⟩, fun i h => by simp at h, by decide, by simp⟩

/-- All comes so much later. -/
def shift (b : Int) (ps : List Pk) (n : Nat) : List Pk := (ps.take n).map fun p => ⟨p.f0 + b, p.f1⟩
theorem shift_len (b : Int) (ps : List Pk) (n : Nat) (h : n ≤ ps.length) : (shift b ps n).length = n := by simp [shift]; omega
theorem shift_at (b : Int) (ps : List Pk) (n i : Nat) (h : i < n) (hn : n ≤ ps.length) : (shift b ps n).getD i z50 = ⟨pat ps i + b, psz ps i⟩ := by
  unfold shift pat psz
  have hi : i < ps.length := by omega
  simp [List.getD_eq_getElem?_getD, List.getElem?_map, List.getElem?_take, h, hi]
theorem shift_pat (b : Int) (ps : List Pk) (n i : Nat) (h : i < n) (hn : n ≤ ps.length) : pat (shift b ps n) i = pat ps i + b := by
  show ((shift b ps n).getD i z50).f0 = _
  rw [shift_at b ps n i h hn]
theorem shift_psz (b : Int) (ps : List Pk) (n i : Nat) (h : i < n) (hn : n ≤ ps.length) : psz (shift b ps n) i = psz ps i := by
  show ((shift b ps n).getD i z50).f1 = _
  rw [shift_at b ps n i h hn]
theorem shift_succ (b : Int) (ps : List Pk) (n : Nat) (h : n < ps.length) : shift b ps (n + 1) = shift b ps n ++ [⟨pat ps n + b, psz ps n⟩] := by
  unfold shift pat psz
  rw [List.take_succ_eq_append_getElem h, List.map_append]
  simp [List.getD_eq_getElem?_getD, List.getElem?_eq_getElem h]
theorem shift_cb (r u b : Int) (ps : List Pk) : ∀ i, i < ps.length → cb r u (shift b ps ps.length) i = cb r u ps i
  | 0, _ => rfl
  | i + 1, h => by
    have ih := shift_cb r u b ps i (by omega)
    have e : ca r u (shift b ps ps.length) i = ca r u ps i := by unfold ca; rw [ih, shift_psz b ps _ i (by omega) (Nat.le_refl _)]
    rw [cb_succ, cb_succ, e, shift_pat b ps _ i (by omega) (Nat.le_refl _), shift_pat b ps _ (i + 1) h (Nat.le_refl _), show pat ps (i + 1) + b - (pat ps i + b) = pat ps (i + 1) - pat ps i by omega]
theorem shift_pass (r u b : Int) (ps : List Pk) (i : Nat) (h : i < ps.length) : pass r u (shift b ps ps.length) i = pass r u ps i := by
  unfold pass; rw [shift_cb r u b ps i h, shift_psz b ps _ i h (Nat.le_refl _)]
theorem shift_ok {b : Int} {ps : List Pk} (ok : Ok ps) (h0 : 0 ≤ b) (hl : ∀ i, i < ps.length → pat ps i + b ≤ 1048576) : Ok (shift b ps ps.length) := by
  have hn := shift_len b ps ps.length (Nat.le_refl _)
  constructor
  · intro i hi; rw [hn] at hi; rw [shift_pat b ps _ i hi (Nat.le_refl _)]; have := ok.at0 i hi; have := hl i hi; omega
  · intro i hi; rw [hn] at hi; rw [shift_psz b ps _ i hi (Nat.le_refl _)]; exact ok.sz i hi
  · intro i hi; rw [hn] at hi; rw [shift_pat b ps _ i (by omega) (Nat.le_refl _), shift_pat b ps _ (i + 1) hi (Nat.le_refl _)]; have := ok.up i hi; omega
theorem cb_old (r u : Int) (ps : List Pk) (p : Pk) : ∀ i, i < ps.length → cb r u (ps ++ [p]) i = cb r u ps i
  | 0, _ => rfl
  | i + 1, h => by
    have ih := cb_old r u ps p i (by omega)
    have e : ca r u (ps ++ [p]) i = ca r u ps i := by unfold ca; rw [ih, psz_old ps p (show i < ps.length by omega)]
    rw [cb_succ, cb_succ, e, pat_old ps p (show i < ps.length by omega), pat_old ps p h]
theorem ca_old (r u : Int) (ps : List Pk) (p : Pk) (i : Nat) (h : i < ps.length) : ca r u (ps ++ [p]) i = ca r u ps i := by
  unfold ca; rw [cb_old r u ps p i h, psz_old ps p h]
theorem pass_old (r u : Int) (ps : List Pk) (p : Pk) (i : Nat) (h : i < ps.length) : pass r u (ps ++ [p]) i = pass r u ps i := by
  unfold pass; rw [cb_old r u ps p i h, psz_old ps p h]
theorem mn_mn {u y z : Int} (hz : 0 ≤ z) : mn u (mn u y + z) = mn u (y + z) := by
  have h1 := mn_cases u y
  have h2 := mn_cases u (mn u y + z)
  have h3 := mn_cases u (y + z)
  omega
/-- What has been kept of the packets so far does as all of them do. -/
structure Few (r u : Int) (ps q : List Pk) (i : Nat) : Prop where
  ok : Ok q
  len : 1 ≤ q.length ∧ q.length ≤ i + 1
  last : pat q (q.length - 1) ≤ pat ps i
  alike : ∀ t : Int, pat ps i ≤ t → mn u (ca r u ps i + r * (t - pat ps i)) = mn u (ca r u q (q.length - 1) + r * (t - pat q (q.length - 1)))
  all : ∀ j, 1 ≤ j → j < q.length → pass r u q j = true
theorem Few.skip {r u : Int} {ps q : List Pk} {i : Nat} (f : Few r u ps q i) (ok : Ok ps) (hr : 0 ≤ r) (hi : i + 1 < ps.length) (hp : pass r u ps (i + 1) = false) : Few r u ps q (i + 1) := by
  have hup := ok.up i hi
  refine ⟨f.ok, ⟨f.len.1, by have := f.len.2; omega⟩, by have := f.last; omega, fun t ht => ?_, f.all⟩
  have hca : ca r u ps (i + 1) = cb r u ps (i + 1) := by
    unfold pass at hp; unfold ca; rw [if_neg (of_decide_eq_false hp)]
  have hz := Int.mul_nonneg hr (show 0 ≤ t - pat ps (i + 1) by omega)
  rw [hca, cb_succ, f.alike _ hup, mn_mn hz]
  congr 1
  rw [Int.mul_sub, Int.mul_sub, Int.mul_sub]; omega
theorem Few.take {r u : Int} {ps q : List Pk} {i : Nat} (f : Few r u ps q i) (ok : Ok ps) (hi : i + 1 < ps.length) (hp : pass r u ps (i + 1) = true) : Few r u ps (q ++ [⟨pat ps (i + 1), psz ps (i + 1)⟩]) (i + 1) := by
  have hup := ok.up i hi
  have ha := ok.at0 (i + 1) hi
  have hs := ok.sz (i + 1) hi
  have hl1 := f.len.1
  have hl2 := f.len.2
  have hlast := f.last
  have hlen : (q ++ [(⟨pat ps (i + 1), psz ps (i + 1)⟩ : Pk)]).length = q.length + 1 := by simp
  obtain ⟨m, hm⟩ : ∃ m, q.length = m + 1 := ⟨q.length - 1, by omega⟩
  have e1 : pat (q ++ [(⟨pat ps (i + 1), psz ps (i + 1)⟩ : Pk)]) q.length = pat ps (i + 1) := pat_new _ _
  have e2 : psz (q ++ [(⟨pat ps (i + 1), psz ps (i + 1)⟩ : Pk)]) q.length = psz ps (i + 1) := psz_new _ _
  have e3 : cb r u (q ++ [(⟨pat ps (i + 1), psz ps (i + 1)⟩ : Pk)]) q.length = cb r u ps (i + 1) := by
    have al := f.alike _ hup
    have hq1 : pat (q ++ [(⟨pat ps (i + 1), psz ps (i + 1)⟩ : Pk)]) (m + 1) = pat ps (i + 1) := by rw [← hm]; exact e1
    rw [hm, show m + 1 - 1 = m by omega] at al
    rw [hm, cb_succ, cb_succ, ca_old r u q _ m (by omega), pat_old q _ (show m < q.length by omega), hq1, al]
  have e5 : ca r u (q ++ [(⟨pat ps (i + 1), psz ps (i + 1)⟩ : Pk)]) q.length = ca r u ps (i + 1) := by unfold ca; rw [e2, e3]
  refine ⟨f.ok.snoc ha.1 ha.2 hs.1 hs.2 (fun j hj => ?_), by omega, ?_, fun t _ => ?_, fun j h1 h2 => ?_⟩
  · show pat q j ≤ pat ps (i + 1)
    have := f.last
    rw [show q.length - 1 = j by omega] at this
    omega
  · rw [hlen, show q.length + 1 - 1 = q.length by omega, e1]; exact Int.le_refl _
  · rw [hlen, show q.length + 1 - 1 = q.length by omega, e1, e5]
  · by_cases c : j < q.length
    · rw [pass_old _ _ _ _ _ c]; exact f.all j h1 c
    · obtain rfl : j = q.length := by omega
      unfold pass at hp ⊢; rw [e2, e3]; exact hp
theorem all_loop (r u : Int) (q : List Pk) (hp : ∀ j, 1 ≤ j → j < q.length → pass r u q j = true) (hl : q.length ≤ 300) (d : Nat) : ∀ (k i : Nat), 1 ≤ i → q.length ≤ i + d → d + 1 ≤ k → i ≤ 1000 → packthreadkeep_BucketLater.l2 k (passes r u q) i = some true := by
  induction d with
  | zero =>
    intro k i h1 hi hk _
    obtain ⟨k, rfl⟩ : ∃ m, k = m + 1 := ⟨k - 1, by omega⟩
    rw [packthreadkeep_BucketLater.l2, if_neg (by rw [passes_len]; omega)]
  | succ d ih =>
    intro k i h1 hi hk h2
    obtain ⟨k, rfl⟩ : ∃ m, k = m + 1 := ⟨k - 1, by omega⟩
    by_cases c : i < q.length
    · rw [packthreadkeep_BucketLater.l2, if_pos (by rw [passes_len]; omega), if_pos (by omega), passes_at r u q i c, if_pos (hp i h1 c), wrap64_id (by omega) (by omega), show ((i : Int) + 1) = ((i + 1 : Nat) : Int) by omega]
      exact ih k (i + 1) (by omega) (by omega) (by omega) (by omega)
    · rw [packthreadkeep_BucketLater.l2, if_neg (by rw [passes_len]; omega)]
theorem ending {r u : Int} (h0 : 0 ≤ r) (h1 : r ≤ 1000) (h2 : 0 ≤ u) (h3 : u ≤ 100000) (ps : List Pk) (b : Int) (q : List Pk) (ok : Ok q) (hl : q.length ≤ 200) (hp : ∀ j, 1 ≤ j → j < q.length → pass r u q j = true) (k : Nat) (hk : 1000 ≤ k) :
    packthreadkeep_BucketLater.l1 (k + 1) r u ps (passes r u ps) (passes r u (shift b ps ps.length)) q (ps.length : Int) = some true := by
  rw [packthreadkeep_BucketLater.l1, if_neg (by omega), bucketed_eq k ok h0 h1 h2 h3 (by omega) hk, Option.bind_some, if_pos rfl]
  exact all_loop r u q hp (by omega) 300 k 1 (by omega) (by omega) (by omega) (by omega)
theorem keep_loop {r u : Int} (h0 : 0 ≤ r) (h1 : r ≤ 1000) (h2 : 0 ≤ u) (h3 : u ≤ 100000) (ps : List Pk) (ok : Ok ps) (hl : ps.length ≤ 150) (b : Int) (d : Nat) : ∀ (k i : Nat) (q : List Pk), i + 1 + d = ps.length → d + 1001 ≤ k → Few r u ps q i →
    packthreadkeep_BucketLater.l1 k r u ps (passes r u ps) (passes r u (shift b ps ps.length)) q ((i + 1 : Nat) : Int) = some true := by
  induction d with
  | zero =>
    intro k i q hi hk f
    obtain ⟨k, rfl⟩ : ∃ m, k = m + 1 := ⟨k - 1, by omega⟩
    rw [show i + 1 = ps.length by omega]
    exact ending h0 h1 h2 h3 ps b q f.ok (by have := f.len.2; omega) f.all k (by omega)
  | succ d ih =>
    intro k i q hi hk f
    obtain ⟨k, rfl⟩ : ∃ m, k = m + 1 := ⟨k - 1, by omega⟩
    have hlen := shift_len b ps ps.length (Nat.le_refl _)
    have nx : (((i + 1 : Nat) : Int) + 1) = ((i + 1 + 1 : Nat) : Int) := by omega
    have hi1 : i + 1 < ps.length := by omega
    have ra : (rd_T50 ps ((i + 1 : Nat) : Int)).f0 = pat ps (i + 1) := rfl
    have rs : (rd_T50 ps ((i + 1 : Nat) : Int)).f1 = psz ps (i + 1) := rfl
    rw [packthreadkeep_BucketLater.l1, if_pos (by omega), if_pos (by omega), if_pos (by rw [passes_len]; omega), if_pos (by rw [passes_len, hlen]; omega), passes_at r u ps (i + 1) hi1, passes_at r u (shift b ps ps.length) (i + 1) (by rw [hlen]; exact hi1), shift_pass r u b ps (i + 1) hi1, if_neg (by simp), if_pos (by omega), ra, rs, wrap64_id (by omega) (by omega), nx]
    by_cases g : pass r u ps (i + 1) = true
    · rw [if_pos g, if_pos (by have := f.len.2; omega)]
      exact ih k (i + 1) _ (by omega) (by omega) (f.take ok hi1 g)
    · rw [if_neg g]
      exact ih k (i + 1) _ (by omega) (by omega) (f.skip ok h0 hi1 (Bool.eq_false_iff.mpr g))
theorem later_loop {r u : Int} (h0 : 0 ≤ r) (h1 : r ≤ 1000) (h2 : 0 ≤ u) (h3 : u ≤ 100000) (ps : List Pk) (ok : Ok ps) (hl : ps.length ≤ 150) (a3 : Int) (hat : ∀ i, i < ps.length → pat ps i ≤ 2000) (d : Nat) : ∀ (k i : Nat), i + d = ps.length → d + 2000 ≤ k →
    packthreadkeep_BucketLater.l0 k a3 r u ps (passes r u ps) true (shift (a3 % 10000) ps i) i = some true := by
  induction d with
  | zero =>
    intro k i hi hk
    obtain ⟨k, rfl⟩ : ∃ m, k = m + 4 := ⟨k - 4, by omega⟩
    obtain rfl : i = ps.length := by omega
    have hb : 0 ≤ a3 % 10000 ∧ a3 % 10000 < 10000 := by omega
    generalize a3 % 10000 = b at *
    have hlen := shift_len b ps ps.length (Nat.le_refl _)
    rw [packthreadkeep_BucketLater.l0, if_neg (by omega), bucketed_eq (k + 3) (shift_ok ok hb.1 (fun i hi => by have := hat i hi; omega)) h0 h1 h2 h3 (by omega) (by omega), Option.bind_some, if_pos rfl]
    show packthreadkeep_BucketLater.j1 (k + 3) r u ps (passes r u ps) (passes r u (shift b ps ps.length)) (!true) = some true
    rw [packthreadkeep_BucketLater.j1, if_neg (by decide)]
    by_cases z : (ps.length : Int) > 0
    · have ra : (rd_T50 ps 0).f0 = pat ps 0 := rfl
      have rs : (rd_T50 ps 0).f1 = psz ps 0 := rfl
      have ha := ok.at0 0 (by omega)
      have hs := ok.sz 0 (by omega)
      rw [if_pos z, if_pos z, if_pos (by simp), ra, rs, List.nil_append, packthreadkeep_BucketLater.j2]
      have ok1 : Ok [(⟨pat ps 0, psz ps 0⟩ : Pk)] := by
        constructor
        · intro i hi
          have : i = 0 := by simp at hi; omega
          subst this; exact ha
        · intro i hi
          have : i = 0 := by simp at hi; omega
          subst this; exact hs
        · intro i hi; simp at hi
      have e0 : pat [(⟨pat ps 0, psz ps 0⟩ : Pk)] 0 = pat ps 0 := rfl
      have f : Few r u ps [(⟨pat ps 0, psz ps 0⟩ : Pk)] 0 := by
        refine ⟨ok1, by simp, Int.le_refl _, fun t _ => rfl, fun j h1 h2 => ?_⟩
        simp at h2; omega
      have nx : ((0 : Int) + 1) = ((0 + 1 : Nat) : Int) := by omega
      have p0 := passes_at r u ps 0 (by omega)
      have p1 := passes_at r u (shift b ps ps.length) 0 (by omega)
      rw [packthreadkeep_BucketLater.l1, if_pos z, if_pos (by decide), if_pos (by rw [passes_len]; omega), if_pos (by rw [passes_len, hlen]; omega), show (0 : Int) = ((0 : Nat) : Int) from rfl, p0, p1, shift_pass r u b ps 0 (by omega), if_neg (by simp), if_neg (by omega), wrap64_id (by omega) (by omega)]
      exact keep_loop h0 h1 h2 h3 ps ok hl b (ps.length - 1) _ 0 _ (by omega) (by omega) f
    · rw [if_neg z, packthreadkeep_BucketLater.j2]
      have := ending h0 h1 h2 h3 ps b [] ⟨fun i h => by simp at h, fun i h => by simp at h, fun i h => by simp at h⟩ (by simp) (fun j _ h => by simp at h) k (by omega)
      rw [show (ps.length : Int) = 0 by omega] at this
      exact this
  | succ d ih =>
    intro k i hi hk
    obtain ⟨k, rfl⟩ : ∃ m, k = m + 1 := ⟨k - 1, by omega⟩
    have hb : 0 ≤ a3 % 10000 ∧ a3 % 10000 < 10000 := by omega
    have ra : (rd_T50 ps (i : Int)).f0 = pat ps i := rfl
    have rs : (rd_T50 ps (i : Int)).f1 = psz ps i := rfl
    have ha := ok.at0 i (by omega)
    rw [packthreadkeep_BucketLater.l0, if_pos (by omega), if_pos (by omega), picked_eq _ _ (by decide) (by decide), Option.bind_some, if_pos (by rw [shift_len _ _ _ (by omega)]; omega), ra, rs, wrap64_id (x := pat ps i + a3 % 10000) (by omega) (by omega), ← shift_succ _ _ _ (by omega), wrap64_id (by omega) (by omega), show ((i : Int) + 1) = ((i + 1 : Nat) : Int) by omega]
    exact ih k (i + 1) (by omega) (by omega)

/-- YOURS -/
theorem BucketLater : packthreadkeep_BucketLater.Pure := by
  intro a0 a1 l a3 _ _ _ _ _ _
  obtain ⟨k, hk⟩ : ∃ k, 3000 ≤ k := ⟨3000, Nat.le_refl _⟩
  refine ⟨k, ?_⟩
  obtain ⟨ps, t, e, m, hl⟩ := packets_eq k l 150 (by decide) (by omega)
  have hr : 0 ≤ a0 % 60 ∧ a0 % 60 < 60 := by omega
  have hu : 0 ≤ a1 % 900 ∧ a1 % 900 < 900 := by omega
  unfold packthreadkeep_BucketLater.f
  rw [picked_eq _ _ (by decide) (by decide), Option.bind_some, picked_eq _ _ (by decide) (by decide), Option.bind_some, show (150 : Int) = ((150 : Nat) : Int) from rfl, e, Option.bind_some]
  generalize a0 % 60 = r at *
  generalize a1 % 900 = u at *
  rw [bucketed_eq k m.ok (by omega) (by omega) (by omega) (by omega) (by omega) (by omega), Option.bind_some]
  have ht1 := m.t1
  exact later_loop (by omega) (by omega) (by omega) (by omega) ps m.ok hl a3 (fun i hi => by have := m.late i hi; omega) ps.length k 0 (by omega) (by omega)

end Go.Proofs.Ytfckgffeoepaaaa.Pure
