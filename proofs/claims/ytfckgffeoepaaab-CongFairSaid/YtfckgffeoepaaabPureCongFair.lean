/- Proved: for every input the law CongFair answers true: two who lose at the same time come half as near to each other. Condition: none (all lists of integers). -/
import Derived.Test.YtfckgffeoepaaabPCongFairx3
namespace Go.Proofs.Ytfckgffeoepaaab.Pure
open Go.RowKit Go.Proofs.Ytfckgffeoepaaab.PCongFair Go.Proofs.YtfckgffeoepaaabW.PrintWords Go.Proofs.YtfckgffeoepaaabW.PrintLast
set_option linter.unusedVariables false

theorem wrap64_id {x : Int} (h0 : -9223372036854775808 ≤ x) (h1 : x ≤ 9223372036854775807) : wrap64 x = x := by unfold wrap64; omega

theorem picked_eq (a n : Int) (h0 : 0 < n) (h1 : n ≤ 1000000000000) : packthreadkeep_Picked.f a n = some (a % n) := by
  unfold packthreadkeep_Picked.f
  rw [if_neg (by omega)]
  have hm := Int.tmod_eq_emod (a := a) (b := n)
  have hlo := Int.emod_nonneg a (show n ≠ 0 by omega)
  have hhi := Int.emod_lt_of_pos a h0
  by_cases hc : 0 ≤ a ∨ n ∣ a
  · rw [if_pos hc] at hm
    have e : a.tmod n = a % n := by rw [hm]; simp
    rw [e, if_neg (by omega)]
  · rw [if_neg hc] at hm
    have e : a.tmod n = a % n - n := by rw [hm]; congr 1; omega
    rw [e, if_pos (by omega), wrap64_id (by omega) (by omega)]
    congr 1; omega

abbrev Sg := S58
abbrev Wd := S60
theorem mx_cases (a b : Int) : (a < b ∧ mx a b = b) ∨ (b ≤ a ∧ mx a b = a) := by
  unfold mx; by_cases h : a < b
  · rw [if_pos h]; exact .inl ⟨h, rfl⟩
  · rw [if_neg h]; exact .inr ⟨by omega, rfl⟩
theorem mn_cases (a b : Int) : (b < a ∧ mn a b = b) ∨ (a ≤ b ∧ mn a b = a) := by
  unfold mn; by_cases h : b < a
  · rw [if_pos h]; exact .inl ⟨h, rfl⟩
  · rw [if_neg h]; exact .inr ⟨by omega, rfl⟩
/-- A window that may be. -/
structure OkW (w : Wd) : Prop where
  a0 : 1 ≤ w.f0
  a1 : w.f0 ≤ 64
  b0 : 2 ≤ w.f1
  b1 : w.f1 ≤ 64
  c0 : 0 ≤ w.f2
  c1 : w.f2 < w.f0
  s : w.f0 < w.f1 → w.f2 = 0
def ack (w : Wd) : Wd := if w.f0 < w.f1 then ⟨mn (w.f0 + 1) 64, w.f1, w.f2⟩ else if w.f2 + 1 ≥ w.f0 then ⟨mn (w.f0 + 1) 64, w.f1, 0⟩ else ⟨w.f0, w.f1, w.f2 + 1⟩
def acks : Nat → Wd → Wd
  | 0, w => w
  | n + 1, w => acks n (ack w)
def lostW (late : Bool) (w : Wd) : Wd := ⟨if late = true then 1 else mx (w.f0 / 2) 2, mx (w.f0 / 2) 2, 0⟩
def step (s : Sg) (w : Wd) : Wd := if s.f0 = 1 then acks s.f1.toNat w else lostW (s.f0 == 3) w
theorem ack_ok {w : Wd} (h : OkW w) : OkW (ack w) := by
  obtain ⟨a0, a1, b0, b1, c0, c1, s⟩ := h
  have m := mn_cases (w.f0 + 1) 64
  unfold ack
  by_cases g : w.f0 < w.f1
  · have := s g
    rw [if_pos g]; exact ⟨by show 1 ≤ mn _ _; omega, by show mn _ _ ≤ 64; omega, b0, b1, c0, by show w.f2 < mn _ _; omega, fun _ => this⟩
  · rw [if_neg g]
    by_cases g2 : w.f2 + 1 ≥ w.f0
    · rw [if_pos g2]; exact ⟨by show 1 ≤ mn _ _; omega, by show mn _ _ ≤ 64; omega, b0, b1, by show (0 : Int) ≤ 0; omega, by show 0 < mn _ _; omega, fun _ => rfl⟩
    · rw [if_neg g2]; exact ⟨a0, a1, b0, b1, by show 0 ≤ w.f2 + 1; omega, by show w.f2 + 1 < w.f0; omega, fun h => absurd h g⟩
theorem ack_grows {w : Wd} (h : OkW w) : w.f0 ≤ (ack w).f0 := by
  have m := mn_cases (w.f0 + 1) 64
  have := h.a1
  unfold ack
  by_cases g : w.f0 < w.f1
  · rw [if_pos g]; show _ ≤ mn _ _; omega
  · rw [if_neg g]
    by_cases g2 : w.f2 + 1 ≥ w.f0
    · rw [if_pos g2]; show _ ≤ mn _ _; omega
    · rw [if_neg g2]; exact Int.le_refl _
theorem acks_ok : ∀ (n : Nat) {w : Wd}, OkW w → OkW (acks n w)
  | 0, _, h => h
  | n + 1, _, h => acks_ok n (ack_ok h)
theorem acks_grows : ∀ (n : Nat) {w : Wd}, OkW w → w.f0 ≤ (acks n w).f0
  | 0, _, _ => Int.le_refl _
  | n + 1, _, h => Int.le_trans (ack_grows h) (acks_grows n (ack_ok h))
theorem lost_ok {w : Wd} (h : OkW w) (late : Bool) : OkW (lostW late w) := by
  obtain ⟨a0, a1, _⟩ := h
  have m := mx_cases (w.f0 / 2) 2
  unfold lostW
  cases late with
  | true => exact ⟨by show (1 : Int) ≤ 1; omega, by show (1 : Int) ≤ 64; omega, by show 2 ≤ mx _ _; omega, by show mx _ _ ≤ 64; omega, by show (0 : Int) ≤ 0; omega, by show (0 : Int) < 1; omega, fun _ => rfl⟩
  | false => exact ⟨by show 1 ≤ mx _ _; omega, by show mx _ _ ≤ 64; omega, by show 2 ≤ mx _ _; omega, by show mx _ _ ≤ 64; omega, by show (0 : Int) ≤ 0; omega, by show 0 < mx _ _; omega, fun _ => rfl⟩
theorem step_ok {w : Wd} (h : OkW w) (s : Sg) : OkW (step s w) := by
  unfold step; by_cases g : s.f0 = 1
  · rw [if_pos g]; exact acks_ok _ h
  · rw [if_neg g]; exact lost_ok h _
theorem wider_eq {a b c : Int} (h0 : 0 ≤ a) (h1 : a ≤ 1000) : cong_wider.f a b c = some (mn (a + 1) 64, b, c) := by
  unfold cong_wider.f; rw [wrap64_id (by omega) (by omega)]
theorem acked_eq {w : Wd} (h : OkW w) : cong_acked.f w.f0 w.f1 w.f2 = some ((ack w).f0, (ack w).f1, (ack w).f2) := by
  obtain ⟨a0, a1, b0, b1, c0, c1, s⟩ := h
  unfold cong_acked.f ack
  by_cases g : w.f0 < w.f1
  · rw [if_pos g, if_pos g, wider_eq (by omega) (by omega), Option.bind_some]
  · rw [if_neg g, if_neg g, wrap64_id (by omega) (by omega)]
    by_cases g2 : w.f2 + 1 ≥ w.f0
    · rw [if_pos g2, if_pos g2, wider_eq (by omega) (by omega), Option.bind_some]
    · rw [if_neg g2, if_neg g2]
theorem lost_eq {w : Wd} (h : OkW w) (late : Bool) : cong_lost.f w.f0 w.f1 w.f2 late = some ((lostW late w).f0, (lostW late w).f1, (lostW late w).f2) := by
  obtain ⟨a0, a1, _⟩ := h
  unfold cong_lost.f lostW
  rw [Int.tdiv_eq_ediv_of_nonneg (by omega), wrap64_id (by omega) (by omega)]
  cases late <;> rfl
/-- Signals that may be. -/
def OkS (s : Sg) : Prop := (s.f0 = 1 ∧ 1 ≤ s.f1 ∧ s.f1 ≤ 64) ∨ s.f0 = 2 ∨ s.f0 = 3
def playL : List Sg → Wd → List Wd
  | [], _ => []
  | s :: r, w => step s w :: playL r (step s w)
def fin (l : List Sg) (w : Wd) : Wd := l.foldl (fun w s => step s w) w
theorem playL_len : ∀ (l : List Sg) (w : Wd), (playL l w).length = l.length
  | [], _ => rfl
  | s :: r, w => by rw [playL, List.length_cons, List.length_cons, playL_len r]
theorem inner (l : List Sg) (out : List Wd) (i n : Nat) (hn : n ≤ 64) (hl : out.length ≤ 1000) (hi : i ≤ 1000) (d : Nat) : ∀ (k j : Nat) (w : Wd), j + d = n → d + 1 ≤ k → OkW w →
    cong_Play.l1 k out l (l.length : Int) i n j w.f0 w.f1 w.f2 = cong_Play.l0 (k - d - 1) (out ++ [acks d w]) l (l.length : Int) ((i + 1 : Nat) : Int) (acks d w).f0 (acks d w).f1 (acks d w).f2 := by
  induction d with
  | zero =>
    intro k j w hj hk hw
    obtain ⟨k, rfl⟩ : ∃ m, k = m + 1 := ⟨k - 1, by omega⟩
    rw [cong_Play.l1, if_neg (by omega), if_pos (by omega), wrap64_id (by omega) (by omega), show ((i : Int) + 1) = ((i + 1 : Nat) : Int) by omega]
    rfl
  | succ d ih =>
    intro k j w hj hk hw
    obtain ⟨k, rfl⟩ : ∃ m, k = m + 1 := ⟨k - 1, by omega⟩
    rw [cong_Play.l1, if_pos (by omega), acked_eq hw, Option.bind_some, wrap64_id (by omega) (by omega), show ((j : Int) + 1) = ((j + 1 : Nat) : Int) by omega]
    have := ih k (j + 1) (ack w) (by omega) (by omega) (ack_ok hw)
    rw [show k + 1 - (d + 1) - 1 = k - d - 1 by omega]
    exact this
theorem play_loop (l : List Sg) (hl : l.length ≤ 300) (rest : List Sg) : ∀ (k i : Nat) (out : List Wd) (w : Wd), l.drop i = rest → i + rest.length = l.length → 70 * rest.length + 2 ≤ k → (∀ s ∈ rest, OkS s) → out.length = i → OkW w →
    cong_Play.l0 k out l (l.length : Int) i w.f0 w.f1 w.f2 = some (out ++ playL rest w, 0) := by
  induction rest with
  | nil =>
    intro k i out w hd hi hk _ _ _
    obtain ⟨k, rfl⟩ : ∃ m, k = m + 1 := ⟨k - 1, by omega⟩
    simp at hi
    rw [cong_Play.l0, if_neg (by omega), playL, List.append_nil]
  | cons s rest ih =>
    intro k i out w hd hi hk hs ho hw
    obtain ⟨k, rfl⟩ : ∃ m, k = m + 2 := ⟨k - 2, by simp at hk; omega⟩
    simp only [List.length_cons] at hi hk
    have hlt : i < l.length := by omega
    have hr : rd_T58 l (i : Int) = s := by
      have h2 := List.drop_eq_getElem_cons hlt
      rw [hd] at h2
      have h3 : s = l[i] := by injection h2
      rw [h3]; show l.getD i z58 = _
      simp [List.getD_eq_getElem?_getD, List.getElem?_eq_getElem hlt]
    have hd2 : l.drop (i + 1) = rest := by
      have h2 := List.drop_eq_getElem_cons hlt
      rw [hd] at h2
      injection h2 with _ h3
      exact h3.symm
    have hs1 := hs s (List.mem_cons_self ..)
    have hrest : ∀ s ∈ rest, OkS s := fun x hx => hs x (List.mem_cons_of_mem _ hx)
    have nx : ((i : Int) + 1) = ((i + 1 : Nat) : Int) := by omega
    have go (k : Nat) (hk : 70 * rest.length + 2 ≤ k) : cong_Play.l0 k (out ++ [step s w]) l (l.length : Int) ((i + 1 : Nat) : Int) (step s w).f0 (step s w).f1 (step s w).f2 = some (out ++ playL (s :: rest) w, 0) := by
      rw [ih k (i + 1) (out ++ [step s w]) (step s w) hd2 (by omega) hk hrest (by simp; omega) (step_ok hw s), playL]; simp
    have lost (b : Bool) (hb : (s.f0 == 3) = b) (h1 : ¬ s.f0 = 1) : step s w = lostW b w := by unfold step; rw [if_neg h1, hb]
    rw [cong_Play.l0, if_pos (by omega), if_pos (by omega), if_pos (by omega), hr]
    rcases hs1 with ⟨h1, h2, h3⟩ | h1 | h1
    · rw [if_pos h1, if_neg (by omega), decide_eq_false (by omega), cong_Play.j1, if_neg (by decide)]
      obtain ⟨n, hn⟩ : ∃ n : Nat, s.f1 = n := ⟨s.f1.toNat, by omega⟩
      have e := inner l out i n (by omega) (by omega) (by omega) n k 0 w (by omega) (by omega) hw
      have es : step s w = acks n w := by unfold step; rw [if_pos h1, hn]; rfl
      rw [hn]
      rw [← es] at e
      exact e.trans (go _ (by omega))
    · rw [if_neg (by omega), if_pos h1, lost_eq hw, Option.bind_some, if_pos (by omega), ← lost _ rfl (by omega), wrap64_id (by omega) (by omega), nx]
      exact go (k + 1) (by omega)
    · rw [if_neg (by omega), if_neg (by omega), if_pos h1, lost_eq hw, Option.bind_some, if_pos (by omega), ← lost true (by rw [h1]; rfl) (by omega), wrap64_id (by omega) (by omega), nx]
      exact go (k + 1) (by omega)
theorem play_eq (k : Nat) (l : List Sg) (hl : l.length ≤ 300) (hk : 30000 ≤ k) (hs : ∀ s ∈ l, OkS s) : cong_Play.f k l = some (playL l ⟨1, 64, 0⟩, 0) := by
  unfold cong_Play.f
  rw [if_neg (by omega)]
  have := play_loop l hl l k 0 [] ⟨1, 64, 0⟩ (by rw [List.drop_zero]) (by omega) (by omega) hs rfl ⟨by decide, by decide, by decide, by decide, by decide, by decide, fun _ => rfl⟩
  rw [List.nil_append] at this
  exact this
theorem widths_eq (k : Nat) (l : List Sg) (hl : l.length ≤ 300) (hk : 30000 ≤ k) (hs : ∀ s ∈ l, OkS s) : packthreadkeep_widths.f k l = some (playL l ⟨1, 64, 0⟩, true) := by
  unfold packthreadkeep_widths.f
  rw [if_pos (by simp; omega), List.nil_append, play_eq k l hl hk hs, Option.bind_some, if_pos rfl]
  show some (playL l ⟨1, 64, 0⟩, _) = _
  rw [show ((((playL l ⟨1, 64, 0⟩).length : Int)) == (l.length : Int)) = true from by rw [playL_len]; simp]
theorem fin_snoc (l : List Sg) (s : Sg) (w : Wd) : fin (l ++ [s]) w = step s (fin l w) := by unfold fin; rw [List.foldl_append]; rfl
theorem playL_snoc : ∀ (l : List Sg) (s : Sg) (w : Wd), playL (l ++ [s]) w = playL l w ++ [step s (fin l w)]
  | [], _, _ => rfl
  | x :: r, s, w => by rw [List.cons_append, playL, playL, playL_snoc r, List.cons_append]; rfl
theorem last_at (l : List Sg) (s : Sg) (w : Wd) : rd_T60 (playL (l ++ [s]) w) (l.length : Int) = step s (fin l w) := by
  rw [playL_snoc]
  show List.getD _ l.length z60 = _
  rw [List.getD_eq_getElem?_getD, List.getElem?_append_right (by rw [playL_len]; omega), playL_len]; simp
theorem fin_ok (l : List Sg) : ∀ (w : Wd), OkW w → OkW (fin l w) := by
  induction l with
  | nil => intro w h; exact h
  | cons s r ih => intro w h; exact ih _ (step_ok h s)
theorem ok0 : OkW (⟨1, 64, 0⟩ : Wd) := ⟨by decide, by decide, by decide, by decide, by decide, by decide, fun _ => rfl⟩
theorem last2_at (l : List Sg) (s t : Sg) (w : Wd) : rd_T60 (playL (l ++ [s, t]) w) (l.length : Int) = step s (fin l w) := by
  rw [show l ++ [s, t] = (l ++ [s]) ++ [t] by simp, playL_snoc, ← last_at l s w]
  show List.getD _ l.length z60 = List.getD _ l.length z60
  rw [List.getD_eq_getElem?_getD, List.getElem?_append_left (by rw [playL_len]; simp), List.getD_eq_getElem?_getD]
theorem last1_at (l : List Sg) (s t : Sg) (w : Wd) : rd_T60 (playL (l ++ [s, t]) w) ((l.length + 1 : Nat) : Int) = step t (step s (fin l w)) := by
  have := last_at (l ++ [s]) t w
  rw [fin_snoc] at this
  rw [show l ++ [s, t] = (l ++ [s]) ++ [t] by simp, ← this]
  simp

theorem signals_loop (l : List Int) (n : Nat) (hn : n ≤ 300) (d : Nat) : ∀ (k i : Nat) (out : List Sg), i + d = n → 2 * d + 2 ≤ k → out.length = i → (∀ s ∈ out, OkS s) →
    ∃ r, packthreadkeep_Signals.l0 k l n out i = some r ∧ (∀ s ∈ r, OkS s) ∧ r.length ≤ n := by
  induction d with
  | zero =>
    intro k i out hi hk hlen ho
    obtain ⟨k, rfl⟩ : ∃ m, k = m + 2 := ⟨k - 2, by omega⟩
    refine ⟨out, ?_, ho, by omega⟩
    rw [packthreadkeep_Signals.l0]
    by_cases h : (i : Int) < l.length
    · rw [if_pos h, decide_eq_false (by omega), packthreadkeep_Signals.j1, if_neg (by decide)]
    · rw [if_neg h, packthreadkeep_Signals.j1, if_neg (by decide)]
  | succ d ih =>
    intro k i out hi hk hlen ho
    obtain ⟨k, rfl⟩ : ∃ m, k = m + 2 := ⟨k - 2, by omega⟩
    have add (s : Sg) (hs : OkS s) : ∀ x ∈ out ++ [s], OkS x := fun x hx => by
      rcases List.mem_append.1 hx with h | h
      · exact ho x h
      · rw [List.mem_singleton] at h; rw [h]; exact hs
    rw [packthreadkeep_Signals.l0]
    by_cases h : (i : Int) < l.length
    · have e1 : ((i : Int) + 1) = ((i + 1 : Nat) : Int) := by omega
      have a0 : 0 ≤ rd l i % 20 ∧ rd l i % 20 < 20 := by omega
      rw [if_pos h, decide_eq_true (by omega), packthreadkeep_Signals.j1, if_pos rfl, if_pos (by omega), if_pos h, picked_eq _ _ (by decide) (by decide), Option.bind_some, picked_eq _ _ (by decide) (by decide), Option.bind_some]
      by_cases g0 : rd l i % 11 = 0
      · rw [if_pos g0, if_pos (by omega), wrap64_id (by omega) (by omega), e1]
        exact ih k (i + 1) _ (by omega) (by omega) (by simp; omega) (add _ (.inr (.inl rfl)))
      · rw [if_neg g0]
        by_cases g1 : rd l i % 11 = 1
        · rw [if_pos g1, if_pos (by omega), wrap64_id (by omega) (by omega), e1]
          exact ih k (i + 1) _ (by omega) (by omega) (by simp; omega) (add _ (.inr (.inr rfl)))
        · rw [if_neg g1, if_pos (by omega), wrap64_id (x := (i : Int) + 1) (by omega) (by omega), wrap64_id (by omega) (by omega), e1]
          exact ih k (i + 1) _ (by omega) (by omega) (by simp; omega) (add _ (.inl ⟨rfl, by show 1 ≤ 1 + rd l i % 20; omega, by show 1 + rd l i % 20 ≤ 64; omega⟩))
    · refine ⟨out, ?_, ho, by omega⟩
      rw [if_neg h, packthreadkeep_Signals.j1, if_neg (by decide)]
theorem signals_eq (k : Nat) (l : List Int) (n : Nat) (hn : n ≤ 300) (hk : 2 * n + 2 ≤ k) : ∃ r, packthreadkeep_Signals.f k l n = some r ∧ (∀ s ∈ r, OkS s) ∧ r.length ≤ n :=
  signals_loop l n hn n k 0 [] (by omega) hk rfl (fun _ h => by simp at h)

theorem far_eq {a b : Int} (h0 : 0 ≤ a) (h1 : a ≤ 1000) (h2 : 0 ≤ b) (h3 : b ≤ 1000) : packthreadkeep_CongFair_1.f a b = some (if a < b then b - a else a - b) := by
  unfold packthreadkeep_CongFair_1.f
  by_cases g : a < b
  · rw [if_pos g, if_pos g, wrap64_id (by omega) (by omega)]
  · rw [if_neg g, if_neg g, wrap64_id (by omega) (by omega)]
theorem half {a b : Int} (h0 : 1 ≤ a) (h2 : 1 ≤ b) : (if mx (a / 2) 2 < mx (b / 2) 2 then mx (b / 2) 2 - mx (a / 2) 2 else mx (a / 2) 2 - mx (b / 2) 2) ≤ ((if a < b then b - a else a - b) + 1) / 2 := by
  have m1 := mx_cases (a / 2) 2
  have m2 := mx_cases (b / 2) 2
  split <;> split <;> omega

/-- YOURS -/
theorem CongFair : packthreadkeep_CongFair.Pure := by
  intro l0 l1 _ _ _ _ _ _
  obtain ⟨k, hk⟩ : ∃ k, 50000 ≤ k := ⟨50000, Nat.le_refl _⟩
  refine ⟨k + 1, ?_⟩
  obtain ⟨l, e, hs, hl⟩ := signals_eq (k + 1) l0 80 (by decide) (by omega)
  obtain ⟨q, e', hs', hl'⟩ := signals_eq (k + 1) l1 80 (by decide) (by omega)
  have add (q : List Sg) (hq : ∀ s ∈ q, OkS s) : ∀ x ∈ q ++ [(⟨1, 1⟩ : Sg), ⟨2, 0⟩], OkS x := fun x hx => by
    rcases List.mem_append.1 hx with h | h
    · exact hq x h
    · simp at h
      rcases h with h | h
      · rw [h]; exact .inl ⟨rfl, by decide, by decide⟩
      · rw [h]; exact .inr (.inl rfl)
  have h1 := widths_eq (k + 1) (l ++ [⟨1, 1⟩, ⟨2, 0⟩]) (by simp; omega) (by omega) (add l hs)
  have h2 := widths_eq (k + 1) (q ++ [⟨1, 1⟩, ⟨2, 0⟩]) (by simp; omega) (by omega) (add q hs')
  have r1 := last2_at l ⟨1, 1⟩ ⟨2, 0⟩ ⟨1, 64, 0⟩
  have r2 := last1_at l ⟨1, 1⟩ ⟨2, 0⟩ ⟨1, 64, 0⟩
  have r3 := last2_at q ⟨1, 1⟩ ⟨2, 0⟩ ⟨1, 64, 0⟩
  have r4 := last1_at q ⟨1, 1⟩ ⟨2, 0⟩ ⟨1, 64, 0⟩
  have oa := step_ok (fin_ok l _ ok0) ⟨1, 1⟩
  have ob := step_ok (fin_ok q _ ok0) ⟨1, 1⟩
  generalize step ⟨1, 1⟩ (fin l ⟨1, 64, 0⟩) = a at *
  generalize step ⟨1, 1⟩ (fin q ⟨1, 64, 0⟩) = b at *
  have l1 : (playL (l ++ [(⟨1, 1⟩ : Sg), ⟨2, 0⟩]) ⟨1, 64, 0⟩).length = l.length + 2 := by rw [playL_len]; simp
  have l2 : (playL (q ++ [(⟨1, 1⟩ : Sg), ⟨2, 0⟩]) ⟨1, 64, 0⟩).length = q.length + 2 := by rw [playL_len]; simp
  unfold packthreadkeep_CongFair.f
  rw [show (80 : Int) = ((80 : Nat) : Int) from rfl, e, Option.bind_some, Option.bind_some, if_pos (by simp; omega), h1, Option.bind_some, e', Option.bind_some, Option.bind_some, if_pos (by simp; omega), h2, Option.bind_some, if_pos rfl]
  generalize playL (l ++ [(⟨1, 1⟩ : Sg), ⟨2, 0⟩]) ⟨1, 64, 0⟩ = p1 at *
  generalize playL (q ++ [(⟨1, 1⟩ : Sg), ⟨2, 0⟩]) ⟨1, 64, 0⟩ = p2 at *
  show packthreadkeep_CongFair.j0 (k + 1) p1 p2 (!true) = some true
  have m1 := mx_cases (a.f0 / 2) 2
  have m2 := mx_cases (b.f0 / 2) 2
  have a0 := oa.a0
  have a1 := oa.a1
  have b0 := ob.a0
  have b1 := ob.a1
  have r2' : (rd_T60 p1 ((l.length + 1 : Nat) : Int)).f0 = mx (a.f0 / 2) 2 := by rw [r2]; rfl
  have r4' : (rd_T60 p2 ((q.length + 1 : Nat) : Int)).f0 = mx (b.f0 / 2) 2 := by rw [r4]; rfl
  have hh := half a0 b0
  rw [packthreadkeep_CongFair.j0, if_neg (by decide), l1, l2, wrap64_id (x := ((l.length + 2 : Nat) : Int) - 2) (by omega) (by omega), wrap64_id (x := ((q.length + 2 : Nat) : Int) - 2) (by omega) (by omega), wrap64_id (x := ((l.length + 2 : Nat) : Int) - 1) (by omega) (by omega), wrap64_id (x := ((q.length + 2 : Nat) : Int) - 1) (by omega) (by omega),
    show ((l.length + 2 : Nat) : Int) - 2 = (l.length : Int) by omega, show ((q.length + 2 : Nat) : Int) - 2 = (q.length : Int) by omega, show ((l.length + 2 : Nat) : Int) - 1 = ((l.length + 1 : Nat) : Int) by omega, show ((q.length + 2 : Nat) : Int) - 1 = ((q.length + 1 : Nat) : Int) by omega,
    if_pos (by omega), if_pos (by omega), if_pos (by omega), if_pos (by omega), r1, r3, far_eq (by omega) (by omega) (by omega) (by omega), Option.bind_some, if_pos (by omega), if_pos (by omega), if_pos (by omega), if_pos (by omega), r2', r4', far_eq (by omega) (by omega) (by omega) (by omega), Option.bind_some]
  have hr : 0 ≤ (if a.f0 < b.f0 then b.f0 - a.f0 else a.f0 - b.f0) ∧ (if a.f0 < b.f0 then b.f0 - a.f0 else a.f0 - b.f0) ≤ 64 := by split <;> omega
  generalize (if a.f0 < b.f0 then b.f0 - a.f0 else a.f0 - b.f0) = w at *
  rw [wrap64_id (x := w + 1) (by omega) (by omega), Int.tdiv_eq_ediv_of_nonneg (by omega), wrap64_id (by omega) (by omega), decide_eq_true hh]

end Go.Proofs.Ytfckgffeoepaaab.Pure
