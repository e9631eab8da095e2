/- Proved: for every input the law BucketKind answers true: a packet that does not pass would have brought more than the bound, from some packet on. Condition: none (all integers, every list of integers). -/
import Derived.Test.YtfckgffeoepaaabPBucketKindx2
namespace Go.Proofs.Ytfckgffeoepaaab.Pure
open Go.RowKit Go.Proofs.Ytfckgffeoepaaab.PBucketKind Go.Proofs.YtfckgffeoepaaabW.PrintWords Go.Proofs.YtfckgffeoepaaabW.PrintLast
set_option linter.unusedVariables false

theorem wrap64_id {x : Int} (h0 : -9223372036854775808 ≤ x) (h1 : x ≤ 9223372036854775807) : wrap64 x = x := by unfold wrap64; omega

theorem picked_eq (a n : Int) (h0 : 0 < n) (h1 : n ≤ 1000000000000) : packthreadkeep_Picked.f a n = some (a % n) := by
  unfold packthreadkeep_Picked.f
  rw [if_neg (by omega)]
  have hm := Int.tmod_eq_emod (a := a) (b := n)
  have hlo := Int.emod_nonneg a (show n ≠ 0 by omega)
  have hhi := Int.emod_lt_of_pos a h0
  by_cases hc : 0 ≤ a ∨ n ∣ a
  · rw [if_pos hc] at hm
    have e : a.tmod n = a % n := by rw [hm]; simp
    rw [e, if_neg (by omega)]
  · rw [if_neg hc] at hm
    have e : a.tmod n = a % n - n := by rw [hm]; congr 1; omega
    rw [e, if_pos (by omega), wrap64_id (by omega) (by omega)]
    congr 1; omega

abbrev Pk := S30
def pat (ps : List Pk) (i : Nat) : Int := (ps.getD i z30).f0
def psz (ps : List Pk) (i : Nat) : Int := (ps.getD i z30).f1
/-- Packets that may be: within the limits, in their order. -/
structure Ok (ps : List Pk) : Prop where
  at0 : ∀ i, i < ps.length → 0 ≤ pat ps i ∧ pat ps i ≤ 1048576
  sz : ∀ i, i < ps.length → 1 ≤ psz ps i ∧ psz ps i ≤ 1500
  up : ∀ i, i + 1 < ps.length → pat ps i ≤ pat ps (i + 1)
theorem mn_cases (a b : Int) : (b < a ∧ mn a b = b) ∨ (a ≤ b ∧ mn a b = a) := by
  unfold mn; by_cases h : b < a
  · rw [if_pos h]; exact .inl ⟨h, rfl⟩
  · rw [if_neg h]; exact .inr ⟨by omega, rfl⟩
/-- The credit when a packet comes. -/
def cb (r u : Int) (ps : List Pk) : Nat → Int
  | 0 => u
  | i + 1 => mn u ((if psz ps i ≤ cb r u ps i then cb r u ps i - psz ps i else cb r u ps i) + r * (pat ps (i + 1) - pat ps i))
/-- The credit behind it. -/
def ca (r u : Int) (ps : List Pk) (i : Nat) : Int := if psz ps i ≤ cb r u ps i then cb r u ps i - psz ps i else cb r u ps i
theorem cb_succ (r u : Int) (ps : List Pk) (i : Nat) : cb r u ps (i + 1) = mn u (ca r u ps i + r * (pat ps (i + 1) - pat ps i)) := rfl
def pass (r u : Int) (ps : List Pk) (i : Nat) : Bool := decide (psz ps i ≤ cb r u ps i)
theorem ca_le {r u : Int} {ps : List Pk} (i : Nat) (hs : 0 ≤ psz ps i) : ca r u ps i ≤ cb r u ps i := by unfold ca; split <;> omega
theorem cb_range {r u : Int} {ps : List Pk} (ok : Ok ps) (hr : 0 ≤ r) (hu : 0 ≤ u) : ∀ i, i < ps.length → 0 ≤ cb r u ps i ∧ cb r u ps i ≤ u
  | 0, _ => ⟨hu, Int.le_refl _⟩
  | i + 1, h => by
    have h1 := cb_range ok hr hu i (by omega)
    have h2 := Int.mul_nonneg hr (show 0 ≤ pat ps (i + 1) - pat ps i by have := ok.up i h; omega)
    have h3 := ok.sz i (by omega)
    rw [cb_succ]
    have h4 : 0 ≤ ca r u ps i := by unfold ca; split <;> omega
    have := mn_cases u (ca r u ps i + r * (pat ps (i + 1) - pat ps i))
    omega
theorem ca_range {r u : Int} {ps : List Pk} (ok : Ok ps) (hr : 0 ≤ r) (hu : 0 ≤ u) (i : Nat) (h : i < ps.length) : 0 ≤ ca r u ps i ∧ ca r u ps i ≤ u := by
  have h1 := cb_range ok hr hu i h
  have h3 := ok.sz i h
  unfold ca; split <;> omega
theorem in_eq {x l h : Int} (h0 : l ≤ x) (h1 : x ≤ h) : bucket_in.f x l h = some true := by
  unfold bucket_in.f; rw [if_pos h0, decide_eq_true h1]
theorem may_eq {r u : Int} (h0 : 0 ≤ r) (h1 : r ≤ 1000) (h2 : 0 ≤ u) (h3 : u ≤ 100000) : bucket_may.f r u = some true := by
  unfold bucket_may.f
  rw [in_eq h0 h1, Option.bind_some, if_pos rfl, in_eq h2 h3, Option.bind_some]
theorem step_eq {r u : Int} {ps : List Pk} (ok : Ok ps) (h0 : 0 ≤ r) (h1 : r ≤ 1000) (h2 : 0 ≤ u) (h3 : u ≤ 100000) (hl : ps.length ≤ 300) (k i : Nat) (hi : i < ps.length) (c l : Int)
    (hc : c = if i = 0 then u else ca r u ps (i - 1)) (hlast : l = if i = 0 then 0 else pat ps (i - 1)) :
    bucket_Play.l0 (k + 3) r u ((List.range i).map (pass r u ps)) c l ps (ps.length : Int) i = bucket_Play.l0 k r u ((List.range (i + 1)).map (pass r u ps)) (ca r u ps i) (pat ps i) ps (ps.length : Int) ((i + 1 : Nat) : Int) := by
  have ha := ok.at0 i hi
  have hs := ok.sz i hi
  have hb := cb_range ok h0 h2 i hi
  have e1 : ((i : Int) + 1) = ((i + 1 : Nat) : Int) := by omega
  have ra : (rd_T30 ps (i : Int)).f0 = pat ps i := rfl
  have rs : (rd_T30 ps (i : Int)).f1 = psz ps i := rfl
  have hr1 : (List.range (i + 1)).map (pass r u ps) = (List.range i).map (pass r u ps) ++ [pass r u ps i] := by rw [List.range_succ]; simp
  rw [bucket_Play.l0, if_pos (by omega), if_pos (by omega), if_pos (by omega), ra, rs, in_eq ha.1 ha.2, Option.bind_some, if_pos rfl, in_eq hs.1 hs.2, Option.bind_some, bucket_Play.j1, if_neg (by decide)]
  have key : bucket_Play.j2 (k + 1) r u ((List.range i).map (pass r u ps)) c l i ps (ps.length : Int) i (pat ps i) (psz ps i) = bucket_Play.l0 k r u ((List.range (i + 1)).map (pass r u ps)) (ca r u ps i) (pat ps i) ps (ps.length : Int) ((i + 1 : Nat) : Int) := by
    rw [bucket_Play.j2, hr1]
    have hpass : pass r u ps i = decide (psz ps i ≤ cb r u ps i) := rfl
    have hlen : ((List.range i).map (pass r u ps)).length < 140737488355328 := by simp; omega
    cases i with
    | zero =>
      rw [if_pos rfl] at hc
      subst hc
      rw [if_neg (by omega)]
      have e : cb r c ps 0 = c := rfl
      unfold ca
      rw [hpass, e]
      by_cases g : psz ps 0 ≤ c
      · rw [if_pos g, if_pos hlen, if_pos g, decide_eq_true g, wrap64_id (by omega) (by omega), wrap64_id (by omega) (by omega)]; rfl
      · rw [if_neg g, if_pos hlen, if_neg g, decide_eq_false g, wrap64_id (by omega) (by omega)]; rfl
    | succ i =>
      rw [if_neg (by omega)] at hc hlast
      rw [show i + 1 - 1 = i by omega] at hc hlast
      have hca := ca_range ok h0 h2 i (by omega)
      have hat := ok.at0 i (by omega)
      have hup := ok.up i hi
      subst hc hlast
      have p1 := Int.mul_nonneg h0 (show 0 ≤ pat ps (i + 1) - pat ps i by omega)
      have p2 := Int.mul_le_mul h1 (show pat ps (i + 1) - pat ps i ≤ 1048576 by omega) (by omega) (by decide)
      have e : mn u (wrap64 (ca r u ps i + (wrap64 (r * (wrap64 (pat ps (i + 1) - pat ps i)))))) = cb r u ps (i + 1) := by
        rw [cb_succ, wrap64_id (x := pat ps (i + 1) - pat ps i) (by omega) (by omega), wrap64_id (x := r * (pat ps (i + 1) - pat ps i)) (by omega) (by omega), wrap64_id (by omega) (by omega)]
      rw [if_pos (by omega), e, hpass]
      unfold ca
      by_cases g : psz ps (i + 1) ≤ cb r u ps (i + 1)
      · rw [if_pos g, if_pos hlen, if_pos g, decide_eq_true g, wrap64_id (by omega) (by omega), wrap64_id (by omega) (by omega), e1]
      · rw [if_neg g, if_pos hlen, if_neg g, decide_eq_false g, wrap64_id (by omega) (by omega), e1]
  by_cases g : (i : Int) > 0
  · rw [if_pos g, if_neg ?_, key]
    rw [hlast, if_neg (by omega)]
    have := ok.up (i - 1) (by omega)
    rw [show i - 1 + 1 = i by omega] at this
    omega
  · rw [if_neg g, key]
theorem play_loop {r u : Int} {ps : List Pk} (ok : Ok ps) (h0 : 0 ≤ r) (h1 : r ≤ 1000) (h2 : 0 ≤ u) (h3 : u ≤ 100000) (hl : ps.length ≤ 300) (d : Nat) : ∀ (k i : Nat) (c l : Int), i + d = ps.length → 3 * d + 1 ≤ k →
    (c = if i = 0 then u else ca r u ps (i - 1)) → (l = if i = 0 then 0 else pat ps (i - 1)) →
    bucket_Play.l0 k r u ((List.range i).map (pass r u ps)) c l ps (ps.length : Int) i = some ((List.range ps.length).map (pass r u ps), 0) := by
  induction d with
  | zero =>
    intro k i c l hi hk _ _
    obtain ⟨k, rfl⟩ : ∃ m, k = m + 1 := ⟨k - 1, by omega⟩
    obtain rfl : i = ps.length := by omega
    rw [bucket_Play.l0, if_neg (by omega)]
  | succ d ih =>
    intro k i c l hi hk hc hla
    obtain ⟨k, rfl⟩ : ∃ m, k = m + 3 := ⟨k - 3, by omega⟩
    rw [step_eq ok h0 h1 h2 h3 hl k i (by omega) c l hc hla]
    exact ih k (i + 1) _ _ (by omega) (by omega) (by rw [if_neg (by omega)]; rfl) (by rw [if_neg (by omega)]; rfl)
def passes (r u : Int) (ps : List Pk) : List Bool := (List.range ps.length).map (pass r u ps)
theorem play_eq {r u : Int} {ps : List Pk} (k : Nat) (ok : Ok ps) (h0 : 0 ≤ r) (h1 : r ≤ 1000) (h2 : 0 ≤ u) (h3 : u ≤ 100000) (hl : ps.length ≤ 300) (hk : 1000 ≤ k) : bucket_Play.f k r u ps = some (passes r u ps, 0) := by
  unfold bucket_Play.f
  rw [may_eq h0 h1 h2 h3, Option.bind_some, if_pos rfl, if_neg (by omega)]
  exact play_loop ok h0 h1 h2 h3 hl ps.length k 0 u 0 (by omega) (by omega) rfl rfl
theorem passes_len (r u : Int) (ps : List Pk) : (passes r u ps).length = ps.length := by simp [passes]
theorem passes_at (r u : Int) (ps : List Pk) (i : Nat) (h : i < ps.length) : rdOf false (passes r u ps) (i : Int) = pass r u ps i := by
  simp [rdOf, passes, List.getD_eq_getElem?_getD, List.getElem?_map, List.getElem?_range h]
theorem bucketed_eq {r u : Int} {ps : List Pk} (k : Nat) (ok : Ok ps) (h0 : 0 ≤ r) (h1 : r ≤ 1000) (h2 : 0 ≤ u) (h3 : u ≤ 100000) (hl : ps.length ≤ 300) (hk : 1000 ≤ k) : packthreadkeep_bucketed.f k r u ps = some (passes r u ps, true) := by
  have ok1 : Ok ([⟨0, 5⟩, ⟨0, 1⟩, ⟨1, 1⟩] : List Pk) := by
    constructor
    · intro i hi
      have : i = 0 ∨ i = 1 ∨ i = 2 := by simp at hi; omega
      rcases this with rfl | rfl | rfl <;> decide
    · intro i hi
      have : i = 0 ∨ i = 1 ∨ i = 2 := by simp at hi; omega
      rcases this with rfl | rfl | rfl <;> decide
    · intro i hi
      have : i = 0 ∨ i = 1 := by simp at hi; omega
      rcases this with rfl | rfl <;> decide
  have e1 : passes 1 5 ([⟨0, 5⟩, ⟨0, 1⟩, ⟨1, 1⟩] : List Pk) = [true, false, true] := by decide
  unfold packthreadkeep_bucketed.f
  rw [if_pos (by simp; omega), List.nil_append, play_eq k ok h0 h1 h2 h3 hl hk, Option.bind_some, play_eq k ok1 (by decide) (by decide) (by decide) (by decide) (by decide) hk, Option.bind_some, e1, if_pos rfl, if_pos (by rw [passes_len])]
  rfl
theorem bound_eq {r u t : Int} (h0 : 0 ≤ r) (h1 : r ≤ 1000) (h2 : 0 ≤ u) (h3 : u ≤ 100000) (h4 : 0 ≤ t) (h5 : t ≤ 1048576) : bucket_Bound.f r u t = some (u + r * t, 0) := by
  have p1 := Int.mul_nonneg h0 h4
  have p2 := Int.mul_le_mul h1 h5 h4 (by decide)
  unfold bucket_Bound.f
  rw [may_eq h0 h1 h2 h3, Option.bind_some, if_pos rfl, in_eq h4 h5, Option.bind_some, if_pos rfl, wrap64_id (x := r * t) (by omega) (by omega), wrap64_id (by omega) (by omega)]

/-- Packets as they are drawn: how late the last one is at most. -/
structure Made (ps : List Pk) (t : Int) : Prop where
  ok : Ok ps
  late : ∀ i, i < ps.length → pat ps i ≤ t
  t0 : 0 ≤ t
  t1 : t ≤ 12 * ps.length
theorem getD_last (ps : List Pk) (p : Pk) (i : Nat) : (ps ++ [p]).getD i z30 = if i < ps.length then ps.getD i z30 else if i = ps.length then p else z30 := by
  by_cases h : i < ps.length
  · rw [if_pos h]; simp [List.getD_eq_getElem?_getD, List.getElem?_append_left h]
  · rw [if_neg h]
    by_cases g : i = ps.length
    · subst g; simp
    · rw [if_neg g]; simp [List.getD_eq_getElem?_getD]; rw [List.getElem?_append_right (by omega), List.getElem?_eq_none (by simp; omega)]; rfl
theorem pat_old (ps : List Pk) (p : Pk) {i : Nat} (h : i < ps.length) : pat (ps ++ [p]) i = pat ps i := by unfold pat; rw [getD_last, if_pos h]
theorem psz_old (ps : List Pk) (p : Pk) {i : Nat} (h : i < ps.length) : psz (ps ++ [p]) i = psz ps i := by unfold psz; rw [getD_last, if_pos h]
theorem pat_new (ps : List Pk) (p : Pk) : pat (ps ++ [p]) ps.length = p.f0 := by unfold pat; rw [getD_last, if_neg (by omega), if_pos rfl]
theorem psz_new (ps : List Pk) (p : Pk) : psz (ps ++ [p]) ps.length = p.f1 := by unfold psz; rw [getD_last, if_neg (by omega), if_pos rfl]
theorem Ok.snoc {ps : List Pk} (h : Ok ps) {p : Pk} (h0 : 0 ≤ p.f0) (h1 : p.f0 ≤ 1048576) (h2 : 1 ≤ p.f1) (h3 : p.f1 ≤ 1500) (hu : ∀ i, i + 1 = ps.length → pat ps i ≤ p.f0) : Ok (ps ++ [p]) := by
  have hlen : (ps ++ [p]).length = ps.length + 1 := by simp
  constructor
  · intro i hi
    by_cases c : i < ps.length
    · rw [pat_old _ _ c]; exact h.at0 i c
    · obtain rfl : i = ps.length := by omega
      rw [pat_new]; exact ⟨h0, h1⟩
  · intro i hi
    by_cases c : i < ps.length
    · rw [psz_old _ _ c]; exact h.sz i c
    · obtain rfl : i = ps.length := by omega
      rw [psz_new]; exact ⟨h2, h3⟩
  · intro i hi
    by_cases c : i + 1 < ps.length
    · rw [pat_old _ _ (show i < ps.length by omega), pat_old _ _ c]; exact h.up i c
    · have hh : i + 1 = ps.length := by omega
      rw [hh, pat_new, pat_old _ _ (show i < ps.length by omega)]
      exact hu i hh
theorem packets_loop (l : List Int) (n : Nat) (hn : n ≤ 200) (d : Nat) : ∀ (k i : Nat) (ps : List Pk) (t : Int), i + d = n → 2 * d + 2 ≤ k → ps.length = i → Made ps t →
    ∃ qs t', packthreadkeep_Packets.l0 k l n ps t i = some qs ∧ Made qs t' ∧ qs.length ≤ n := by
  induction d with
  | zero =>
    intro k i ps t hi hk hlen m
    obtain ⟨k, rfl⟩ : ∃ m, k = m + 2 := ⟨k - 2, by omega⟩
    refine ⟨ps, t, ?_, m, by omega⟩
    rw [packthreadkeep_Packets.l0]
    by_cases h : (i : Int) < l.length
    · rw [if_pos h, decide_eq_false (by omega), packthreadkeep_Packets.j1, if_neg (by decide)]
    · rw [if_neg h, packthreadkeep_Packets.j1, if_neg (by decide)]
  | succ d ih =>
    intro k i ps t hi hk hlen m
    obtain ⟨k, rfl⟩ : ∃ m, k = m + 2 := ⟨k - 2, by omega⟩
    rw [packthreadkeep_Packets.l0]
    by_cases h : (i : Int) < l.length
    · have e1 : ((i : Int) + 1) = ((i + 1 : Nat) : Int) := by omega
      have a0 : 0 ≤ rd l i % 12 ∧ rd l i % 12 < 12 := by omega
      have b0 : 0 ≤ wrap64 (Int.tdiv (rd l i) 12) % 300 ∧ wrap64 (Int.tdiv (rd l i) 12) % 300 < 300 := by omega
      have t1 := m.t1
      have t0 := m.t0
      rw [if_pos h, decide_eq_true (by omega), packthreadkeep_Packets.j1, if_pos rfl, if_pos (by omega), if_pos h, picked_eq _ _ (by decide) (by decide), Option.bind_some, picked_eq _ _ (by decide) (by decide), Option.bind_some, if_pos (by omega)]
      generalize rd l i % 12 = a at *
      generalize wrap64 (Int.tdiv (rd l i) 12) % 300 = b at *
      rw [wrap64_id (x := t + a) (by omega) (by omega), wrap64_id (x := 1 + b) (by omega) (by omega), wrap64_id (by omega) (by omega), e1]
      have hlen2 : (ps ++ [(⟨t + a, 1 + b⟩ : Pk)]).length = ps.length + 1 := by simp
      refine ih k (i + 1) (ps ++ [⟨t + a, 1 + b⟩]) (t + a) (by omega) (by omega) (by omega) ⟨?_, ?_, by omega, by rw [hlen2]; omega⟩
      · exact m.ok.snoc (by show 0 ≤ t + a; omega) (by show t + a ≤ _; omega) (by show 1 ≤ 1 + b; omega) (by show 1 + b ≤ _; omega) (fun j hj => by have := m.late j (by omega); show _ ≤ t + a; omega)
      · intro j hj
        by_cases c : j < ps.length
        · rw [pat_old _ _ c]; have := m.late j c; omega
        · obtain rfl : j = ps.length := by omega
          rw [pat_new]; exact Int.le_refl _
    · refine ⟨ps, t, ?_, m, by omega⟩
      rw [if_neg h, packthreadkeep_Packets.j1, if_neg (by decide)]
theorem packets_eq (k : Nat) (l : List Int) (n : Nat) (hn : n ≤ 200) (hk : 2 * n + 2 ≤ k) : ∃ qs t', packthreadkeep_Packets.f k l n = some qs ∧ Made qs t' ∧ qs.length ≤ n :=
  packets_loop l n hn n k 0 [] 0 (by omega) hk rfl ⟨⟨fun i h => by simp at h, fun i h => by simp at h, fun i h => by simp at h⟩, fun i h => by simp at h, by decide, by simp⟩

def took (r u : Int) (ps : List Pk) (j : Nat) : Int := if pass r u ps j = true then psz ps j else 0
/-- What passes of so many, from one on. -/
def sumP (r u : Int) (ps : List Pk) (i : Nat) : Nat → Int
  | 0 => 0
  | n + 1 => sumP r u ps i n + took r u ps (i + n)
theorem ca_took (r u : Int) (ps : List Pk) (j : Nat) : ca r u ps j = cb r u ps j - took r u ps j := by
  unfold ca took pass
  by_cases h : psz ps j ≤ cb r u ps j
  · rw [if_pos h, if_pos (decide_eq_true h)]
  · rw [if_neg h, if_neg (by rw [decide_eq_true_eq]; exact h)]; omega
theorem took_range {r u : Int} {ps : List Pk} (ok : Ok ps) (j : Nat) (h : j < ps.length) : 0 ≤ took r u ps j ∧ took r u ps j ≤ 1500 := by
  have := ok.sz j h
  unfold took; split <;> omega
theorem sumP_range {r u : Int} {ps : List Pk} (ok : Ok ps) (i : Nat) : ∀ n, i + n ≤ ps.length → 0 ≤ sumP r u ps i n ∧ sumP r u ps i n ≤ 1500 * n
  | 0, _ => by simp [sumP]
  | n + 1, h => by
    have h1 := sumP_range (r := r) (u := u) ok i n (by omega)
    have h2 := took_range (r := r) (u := u) ok (i + n) (by omega)
    rw [sumP]; omega
theorem Ok.mono {ps : List Pk} (ok : Ok ps) (i : Nat) : ∀ n, i + n < ps.length → pat ps i ≤ pat ps (i + n) := by
  intro n
  induction n with
  | zero => intro _; exact Int.le_refl _
  | succ n ih => intro h; have := ih (by omega); have := ok.up (i + n) (by omega); rw [show i + (n + 1) = i + n + 1 by omega]; omega

theorem sumP_front (r u : Int) (ps : List Pk) (i : Nat) : ∀ n, sumP r u ps i (n + 1) = took r u ps i + sumP r u ps (i + 1) n
  | 0 => by simp [sumP]
  | n + 1 => by rw [sumP, sumP_front r u ps i n, sumP, show i + (n + 1) = i + 1 + n by omega]; omega
/-- From some packet on the credit was full, and what passed since then is what it lacks. -/
theorem since {r u : Int} {ps : List Pk} (k : Nat) (h : k < ps.length) : ∃ i n, i + n = k ∧ cb r u ps k = u + r * (pat ps k - pat ps i) - sumP r u ps i n := by
  induction k with
  | zero => exact ⟨0, 0, rfl, by rw [Int.sub_self, Int.mul_zero, sumP]; show u = _; omega⟩
  | succ k ih =>
    obtain ⟨i, n, hk, e⟩ := ih (by omega)
    have m := mn_cases u (ca r u ps k + r * (pat ps (k + 1) - pat ps k))
    rcases m with ⟨_, m⟩ | ⟨_, m⟩
    · refine ⟨i, n + 1, by omega, ?_⟩
      rw [cb_succ, m, ca_took, e, sumP, hk, Int.mul_sub, Int.mul_sub, Int.mul_sub]; omega
    · exact ⟨k + 1, 0, rfl, by rw [cb_succ, m, Int.sub_self, Int.mul_zero, sumP]; omega⟩
theorem loop {r u : Int} {ps : List Pk} (ok : Ok ps) (h0 : 0 ≤ r) (h1 : r ≤ 1000) (h2 : 0 ≤ u) (h3 : u ≤ 100000) (hl : ps.length ≤ 300) (w : Nat) (hw : w < ps.length) (hp : ¬ psz ps w ≤ cb r u ps w) (i n : Nat) (hin : i + n = w)
    (hc : cb r u ps w = u + r * (pat ps w - pat ps i) - sumP r u ps i n) (d : Nat) : ∀ (k m : Nat), m + d = n → 3 * d + 3 ≤ k →
    packthreadkeep_BucketKind.l0 k r u ps (passes r u ps) w (psz ps w + (if m = 0 then 0 else sumP r u ps (w - m + 1) (m - 1))) ((w - m : Nat) : Int) = some true := by
  induction d with
  | zero =>
    intro k m hm hk
    obtain ⟨k, rfl⟩ : ∃ m, k = m + 3 := ⟨k - 3, by omega⟩
    obtain rfl : m = n := by omega
    have e0 : w - m = i := by omega
    rw [e0]
    have key : packthreadkeep_BucketKind.j2 (k + 1) r u ps (passes r u ps) w (psz ps w + sumP r u ps i m) i = some true := by
      have ra : (rd_T30 ps (w : Int)).f0 = pat ps w := rfl
      have rs : (rd_T30 ps (i : Int)).f0 = pat ps i := rfl
      have a1 := ok.at0 i (by omega)
      have a2 := ok.at0 w hw
      have a3 := ok.mono i m (by omega)
      rw [hin] at a3
      rw [packthreadkeep_BucketKind.j2, if_pos (by omega), if_pos (by omega), if_pos (by omega), if_pos (by omega), ra, rs, wrap64_id (by omega) (by omega), bound_eq h0 h1 h2 h3 (by omega) (by omega), Option.bind_some, if_pos rfl, if_pos (by omega)]
    rw [packthreadkeep_BucketKind.l0, if_pos (by omega)]
    cases m with
    | zero =>
      rw [if_neg (by omega), packthreadkeep_BucketKind.j1, if_neg (by decide), if_pos rfl]
      exact key
    | succ m =>
      have hz := ok.sz i (by omega)
      have hzw := ok.sz w hw
      have hs := sumP_range (r := r) (u := u) ok (i + 1) m (by omega)
      have hi : (rd_T30 ps (i : Int)).f1 = psz ps i := rfl
      rw [sumP_front] at key
      rw [if_pos (by omega), if_pos (by omega), if_pos (by rw [passes_len]; omega), passes_at r u ps i (by omega), packthreadkeep_BucketKind.j1, if_neg (show ¬ m + 1 = 0 by omega), show m + 1 - 1 = m by omega]
      by_cases g : pass r u ps i = true
      · unfold took at key; rw [if_pos g] at key
        rw [if_pos g, if_pos (by omega), if_pos (by omega), hi, wrap64_id (by omega) (by omega), show psz ps w + sumP r u ps (i + 1) m + psz ps i = psz ps w + (psz ps i + sumP r u ps (i + 1) m) by omega]
        exact key
      · unfold took at key; rw [if_neg g, Int.zero_add] at key
        rw [if_neg g]
        exact key
  | succ d ih =>
    intro k m hm hk
    obtain ⟨k, rfl⟩ : ∃ m, k = m + 3 := ⟨k - 3, by omega⟩
    have nx := ih k (m + 1) (by omega) (by omega)
    rw [if_neg (by omega), show m + 1 - 1 = m by omega, show w - (m + 1) + 1 = w - m by omega] at nx
    obtain ⟨j, hj⟩ : ∃ j, w - m = j := ⟨_, rfl⟩
    have hj2 : w - (m + 1) = j - 1 := by omega
    rw [hj, hj2] at nx
    rw [hj]
    have key : packthreadkeep_BucketKind.j2 (k + 1) r u ps (passes r u ps) w (psz ps w + sumP r u ps j m) j = some true := by
      have ra : (rd_T30 ps (w : Int)).f0 = pat ps w := rfl
      have rs : (rd_T30 ps (j : Int)).f0 = pat ps j := rfl
      have a1 := ok.at0 j (by omega)
      have a2 := ok.at0 w hw
      have a3 := ok.mono j m (by omega)
      rw [show j + m = w by omega] at a3
      rw [packthreadkeep_BucketKind.j2, if_pos (by omega), if_pos (by omega), if_pos (by omega), if_pos (by omega), ra, rs, wrap64_id (by omega) (by omega), bound_eq h0 h1 h2 h3 (by omega) (by omega), Option.bind_some, if_pos rfl]
      by_cases g : psz ps w + sumP r u ps j m > u + r * (pat ps w - pat ps j)
      · rw [if_pos g]
      · rw [if_neg g, wrap64_id (by omega) (by omega), show ((j : Int) - 1) = ((j - 1 : Nat) : Int) by omega]
        exact nx
    rw [packthreadkeep_BucketKind.l0, if_pos (by omega)]
    cases m with
    | zero =>
      rw [if_neg (by omega), packthreadkeep_BucketKind.j1, if_neg (by decide), if_pos rfl]
      exact key
    | succ m =>
      have hz := ok.sz j (by omega)
      have hzw := ok.sz w hw
      have hs := sumP_range (r := r) (u := u) ok (j + 1) m (by omega)
      have hi : (rd_T30 ps (j : Int)).f1 = psz ps j := rfl
      rw [sumP_front] at key
      rw [if_pos (by omega), if_pos (by omega), if_pos (by rw [passes_len]; omega), passes_at r u ps j (by omega), packthreadkeep_BucketKind.j1, if_neg (show ¬ m + 1 = 0 by omega), show m + 1 - 1 = m by omega]
      by_cases g : pass r u ps j = true
      · unfold took at key; rw [if_pos g] at key
        rw [if_pos g, if_pos (by omega), if_pos (by omega), hi, wrap64_id (by omega) (by omega), show psz ps w + sumP r u ps (j + 1) m + psz ps j = psz ps w + (psz ps j + sumP r u ps (j + 1) m) by omega]
        exact key
      · unfold took at key; rw [if_neg g, Int.zero_add] at key
        rw [if_neg g]
        exact key

/-- YOURS -/
theorem BucketKind : packthreadkeep_BucketKind.Pure := by
  intro a0 a1 l a3 _ _ _ _ _ _
  obtain ⟨k, hk⟩ : ∃ k, 2000 ≤ k := ⟨2000, Nat.le_refl _⟩
  refine ⟨k, ?_⟩
  obtain ⟨ps, t, e, m, hl⟩ := packets_eq k l 150 (by decide) (by omega)
  have hr : 0 ≤ a0 % 60 ∧ a0 % 60 < 60 := by omega
  have hu : 0 ≤ a1 % 900 ∧ a1 % 900 < 900 := by omega
  unfold packthreadkeep_BucketKind.f
  rw [picked_eq _ _ (by decide) (by decide), Option.bind_some, picked_eq _ _ (by decide) (by decide), Option.bind_some, show (150 : Int) = ((150 : Nat) : Int) from rfl, e, Option.bind_some]
  generalize a0 % 60 = r at *
  generalize a1 % 900 = u at *
  rw [bucketed_eq k m.ok (by omega) (by omega) (by omega) (by omega) (by omega) (by omega), Option.bind_some, if_pos rfl]
  by_cases z : (ps.length : Int) = 0
  · rw [if_pos z]
  · rw [if_neg z, picked_eq _ _ (by omega) (by omega), Option.bind_some]
    have hi0 : 0 ≤ a3 % (ps.length : Int) := Int.emod_nonneg _ (by omega)
    have hi1 : a3 % (ps.length : Int) < ps.length := Int.emod_lt_of_pos _ (by omega)
    obtain ⟨w, hw⟩ : ∃ j : Nat, a3 % (ps.length : Int) = j := ⟨_, (Int.toNat_of_nonneg hi0).symm⟩
    rw [hw] at hi0 hi1 ⊢
    show (if 0 ≤ (w : Int) then if (w : Int) < ((passes r u ps).length : Int) then if rdOf false (passes r u ps) w = true then some true else _ else none else none) = some true
    have hpl : (w : Int) < ((passes r u ps).length : Int) := by rw [passes_len]; omega
    rw [if_pos (by omega), if_pos hpl, passes_at r u ps w (by omega)]
    by_cases g : pass r u ps w = true
    · rw [if_pos g]
    · have hs : (rd_T30 ps (w : Int)).f1 = psz ps w := rfl
      have hp : ¬ psz ps w ≤ cb r u ps w := by unfold pass at g; rw [decide_eq_true_eq] at g; exact g
      obtain ⟨i, n, hin, hc⟩ := since (r := r) (u := u) (ps := ps) w (by omega)
      have := loop m.ok (by omega) (by omega) (by omega) (by omega) (by omega) w (by omega) hp i n hin hc n k 0 (by omega) (by omega)
      rw [if_pos rfl, Int.add_zero, Nat.sub_zero] at this
      show (if pass r u ps w = true then some true else if (w : Int) < (ps.length : Int) then packthreadkeep_BucketKind.l0 k r u ps (passes r u ps) w ((rd_T30 ps (w : Int)).f1) w else none) = some true
      rw [if_neg g, if_pos (by omega), hs]
      exact this

end Go.Proofs.Ytfckgffeoepaaab.Pure
