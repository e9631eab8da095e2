/- Proved: for every input the law LzRuns answers true: what comes again and again costs little: a token for each MaxRun bytes, and two for what is left. Condition: none (every row of bytes, every number). -/
import Derived.Test.YtknpmpfcmgjpdaaPLzRunsx5
namespace Go.Proofs.Ytknpmpfcmgjpdaa.Pure
open Go.RowKit Go.Proofs.Ytknpmpfcmgjpdaa.PLzRuns Go.Proofs.YtknpmpfcmgjpdaaW.PrintWords Go.Proofs.YtknpmpfcmgjpdaaW.PrintLast
set_option linter.unusedVariables false

theorem wrap64_id {x : Int} (h0 : -9223372036854775808 ≤ x) (h1 : x ≤ 9223372036854775807) : wrap64 x = x := by unfold wrap64; omega

theorem picked_eq (a n : Int) (h0 : 0 < n) (h1 : n ≤ 1000000000000) : packthreadkeep_Picked.f a n = some (a % n) := by
  unfold packthreadkeep_Picked.f
  rw [if_neg (by omega)]
  have hm := Int.tmod_eq_emod (a := a) (b := n)
  have hlo := Int.emod_nonneg a (show n ≠ 0 by omega)
  have hhi := Int.emod_lt_of_pos a h0
  by_cases hc : 0 ≤ a ∨ n ∣ a
  · rw [if_pos hc] at hm
    have e : a.tmod n = a % n := by rw [hm]; simp
    rw [e, if_neg (by omega)]
  · rw [if_neg hc] at hm
    have e : a.tmod n = a % n - n := by rw [hm]; congr 1; omega
    rw [e, if_pos (by omega), wrap64_id (by omega) (by omega)]
    congr 1; omega

def Oct (l : List Int) : Prop := ∀ x ∈ l, 0 ≤ x ∧ x ≤ 255
theorem oct_of {l : List Int} (h : ∀ x ∈ l, (Lit.int .u8 x).wf = true) : Oct l := fun x hx => by
  have := h x hx
  simp [Lit.wf, IntKind.min, IntKind.max, IntKind.signed, IntKind.bits] at this
  omega
theorem Oct.take {l : List Int} (h : Oct l) (n : Nat) : Oct (l.take n) := fun x hx => h x (List.mem_of_mem_take hx)
theorem Oct.append {a b : List Int} (h : Oct a) (g : Oct b) : Oct (a ++ b) := fun x hx => by
  rcases List.mem_append.1 hx with h1 | h1
  · exact h x h1
  · exact g x h1
theorem Oct.set {l : List Int} (h : Oct l) (i : Nat) (v : Int) (h0 : 0 ≤ v) (h1 : v ≤ 255) : Oct (l.set i v) := fun x hx => by
  rcases List.mem_or_eq_of_mem_set hx with h2 | h2
  · exact h x h2
  · subst h2; exact ⟨h0, h1⟩
theorem Oct.getD {l : List Int} (h : Oct l) (i : Nat) : 0 ≤ l.getD i 0 ∧ l.getD i 0 ≤ 255 := by
  by_cases c : i < l.length
  · rw [List.getD_eq_getElem?_getD, List.getElem?_eq_getElem c]; exact h _ (List.getElem_mem c)
  · rw [List.getD_eq_getElem?_getD, List.getElem?_eq_none (by omega)]; simp
theorem octets_eq (l : List Int) (n : Int) (m : Nat) (hm : n = (m : Int)) (hn : m ≤ 1000000) : packthreadkeep_Octets.f l n = some (l.take m) := by
  subst hm
  have e : (mn (l.length : Int) m).toNat = min l.length m := by unfold mn; split <;> omega
  have e0 : 0 ≤ mn (l.length : Int) m := by unfold mn; split <;> omega
  have e1 : mn (l.length : Int) m ≤ l.length := by unfold mn; split <;> omega
  unfold packthreadkeep_Octets.f
  rw [if_pos e0, if_pos e1, e, if_pos (by rw [List.length_take, List.length_nil]; omega), List.nil_append]
  congr 1
  by_cases c : l.length ≤ m
  · rw [Nat.min_eq_left c, List.take_length, List.take_of_length_le c]
  · rw [Nat.min_eq_right (by omega)]

theorem sameb_l0 (l : List Int) (hL : l.length ≤ 100000) : ∀ (m i k : Nat), i + m = l.length → m < k → packthreadkeep_sameBytes.l0 k l l (i : Int) = some true := by
  intro m
  induction m with
  | zero =>
    intro i k hi hk
    obtain ⟨k, rfl⟩ : ∃ q, k = q + 1 := ⟨k - 1, by omega⟩
    rw [packthreadkeep_sameBytes.l0, if_neg (by omega)]
  | succ m ih =>
    intro i k hi hk
    obtain ⟨k, rfl⟩ : ∃ q, k = q + 1 := ⟨k - 1, by omega⟩
    have hw1 : wrap64 ((i : Int) + 1) = ((i + 1 : Nat) : Int) := by rw [wrap64_id (by omega) (by omega)]; omega
    rw [packthreadkeep_sameBytes.l0, if_pos (by omega), if_pos (by omega), if_pos (by omega), if_pos rfl, hw1]
    exact ih (i + 1) k (by omega) (by omega)
theorem sameb_eq (k : Nat) (l : List Int) (hL : l.length ≤ 100000) (hk : l.length < k) : packthreadkeep_sameBytes.f k l l = some true := by
  unfold packthreadkeep_sameBytes.f
  rw [if_pos rfl]
  exact sameb_l0 l hL l.length 0 k (by omega) (by omega)

theorem rdn (x : List Int) (i : Nat) : rd x (i : Int) = x.getD i 0 := by rw [rd, Int.toNat_natCast]
theorem lzRun_match (l : List Int) (p a : Nat) : ∀ f n i, n ≤ i → i < lzRun l p a f n → a + i < l.length ∧ rd l ((p + i : Nat) : Int) = rd l ((a + i : Nat) : Int)
  | 0, n, i, h1, h2 => by rw [lzRun] at h2; omega
  | f + 1, n, i, h1, h2 => by
    rw [lzRun] at h2
    split at h2
    · rename_i hc
      by_cases c : i = n
      · subst c; exact hc
      · exact lzRun_match l p a f (n + 1) i (by omega) h2
    · omega
theorem lzRun_ge (l : List Int) (p a : Nat) : ∀ f n m, m ≤ f → (∀ i, n ≤ i → i < n + m → a + i < l.length ∧ rd l ((p + i : Nat) : Int) = rd l ((a + i : Nat) : Int)) → n + m ≤ lzRun l p a f n
  | 0, n, m, h1, h2 => by rw [lzRun]; omega
  | f + 1, n, m, h1, h2 => by
    rw [lzRun]
    cases m with
    | zero =>
      split
      · have : n + 1 + 0 ≤ lzRun l p a f (n + 1) := lzRun_ge l p a f (n + 1) 0 (by omega) (fun i hi hj => by omega)
        omega
      · omega
    | succ m =>
      rw [if_pos (h2 n (by omega) (by omega))]
      have := lzRun_ge l p a f (n + 1) m (by omega) (fun i hi hj => h2 i (by omega) (by omega))
      omega
/-- a place ahead of a at which the same three bytes stand -/
def Cand (l : List Int) (a p : Nat) : Prop := p < a ∧ p + 3 ≤ l.length ∧ key3 l (p : Nat) = key3 l (a : Nat)
theorem poss_cand (l : List Int) (a : Nat) (z : Int) : z ∈ poss l a (key3 l a) ↔ ∃ p : Nat, z = (p : Int) ∧ Cand l a p := by
  unfold poss Cand
  rw [List.mem_map]
  constructor
  · rintro ⟨p, hp, rfl⟩
    obtain ⟨h1, h2⟩ := List.mem_filter.1 hp
    obtain ⟨h3, h4⟩ := of_decide_eq_true h2
    exact ⟨p, rfl, List.mem_range.1 h1, h3, h4⟩
  · rintro ⟨p, rfl, h1, h2, h3⟩
    exact ⟨p, List.mem_filter.2 ⟨List.mem_range.2 h1, decide_eq_true ⟨h2, h3⟩⟩, rfl⟩
theorem poss_desc (l : List Int) (a : Nat) (k : Int × Int × Int) : (poss l a k).reverse.Pairwise (fun x y => y < x) := by
  unfold poss
  rw [List.pairwise_reverse, List.pairwise_map]
  have h : (List.range a).Pairwise (fun x y => ((x : Nat) : Int) < ((y : Nat) : Int)) := by
    have := List.pairwise_lt_range (n := a)
    exact this.imp (fun h => by omega)
  exact h.filter _
theorem cand_run (l : List Int) (a p : Nat) (ha : a + 3 ≤ l.length) (h : Cand l a p) : 3 ≤ lzRun l p a 200 0 := by
  obtain ⟨h1, h2, h3⟩ := h
  unfold key3 at h3
  simp only [Prod.mk.injEq] at h3
  obtain ⟨e0, e1, e2⟩ := h3
  have := lzRun_ge l p a 200 0 3 (by omega) (fun i hi hj => ⟨by omega, by
    obtain h | h | h : i = 0 ∨ i = 1 ∨ i = 2 := by omega
    · subst h; exact e0
    · subst h
      rw [show ((p + 1 : Nat) : Int) = (p : Int) + 1 by omega, show ((a + 1 : Nat) : Int) = (a : Int) + 1 by omega]; exact e1
    · subst h
      rw [show ((p + 2 : Nat) : Int) = (p : Int) + 2 by omega, show ((a + 2 : Nat) : Int) = (a : Int) + 2 by omega]; exact e2⟩)
  omega
/-- what a best run is -/
def BestOf (l : List Int) (a : Nat) (t : Int × Int) : Prop := t = (0, 0) ∨ ∃ p : Nat, Cand l a p ∧ t.1 = (a : Int) - p ∧ t.1 ≤ 255 ∧ t.2 = ((lzRun l p a 200 0 : Nat) : Int)
theorem bestGo_of (l : List Int) (a : Nat) : ∀ (ps : List Int) (t : Int × Int), (∀ z, z ∈ ps → ∃ p : Nat, z = (p : Int) ∧ Cand l a p) → BestOf l a t → BestOf l a (bestGo l a ps t)
  | [], t, _, h => h
  | z :: ps, t, hp, h => by
    obtain ⟨p, rfl, hc⟩ := hp z List.mem_cons_self
    rw [bestGo]
    split
    · refine bestGo_of l a ps _ (fun y hy => hp y (List.mem_cons_of_mem _ hy)) ?_
      split
      · exact .inr ⟨p, hc, rfl, by assumption, by rw [Int.toNat_natCast]⟩
      · exact h
    · exact h
theorem bestGo_mono (l : List Int) (a : Nat) : ∀ (ps : List Int) (t : Int × Int), t.2 ≤ (bestGo l a ps t).2
  | [], t => Int.le_refl _
  | z :: ps, t => by
    rw [bestGo]
    split
    · refine Int.le_trans ?_ (bestGo_mono l a ps _)
      split
      · exact Int.le_of_lt (by assumption)
      · exact Int.le_refl _
    · exact Int.le_refl _
theorem bestGo_max (l : List Int) (a : Nat) (p : Nat) (hd : (a : Int) - p ≤ 255) : ∀ (ps : List Int) (t : Int × Int), ps.Pairwise (fun x y => y < x) → (p : Int) ∈ ps → ((lzRun l p a 200 0 : Nat) : Int) ≤ (bestGo l a ps t).2
  | [], t, _, h => by simp at h
  | z :: ps, t, hs, h => by
    rw [List.pairwise_cons] at hs
    rw [bestGo]
    rcases List.mem_cons.1 h with e | h
    · subst e
      rw [if_pos hd, Int.toNat_natCast]
      refine Int.le_trans ?_ (bestGo_mono l a ps _)
      split
      · exact Int.le_refl _
      · omega
    · have := hs.1 _ h
      rw [if_pos (by omega)]
      exact bestGo_max l a p hd ps _ hs.2 h
theorem bestAt_of (l : List Int) (a : Nat) : BestOf l a (bestAt l a) := by
  unfold bestAt
  split
  · exact bestGo_of l a _ _ (fun z hz => (poss_cand l a z).1 (List.mem_reverse.1 hz)) (.inl rfl)
  · exact .inl rfl
theorem bestAt_max (l : List Int) (a p : Nat) (ha : a + 3 ≤ l.length) (hc : Cand l a p) (hd : (a : Int) - p ≤ 255) : ((lzRun l p a 200 0 : Nat) : Int) ≤ (bestAt l a).2 := by
  unfold bestAt
  rw [if_pos ha]
  exact bestGo_max l a p hd _ _ (poss_desc l a _) (List.mem_reverse.2 ((poss_cand l a _).2 ⟨p, rfl, hc⟩))
/-- a token at a place: a byte, or a run -/
theorem tok_good (l : List Int) (a : Nat) : ((bestAt l a).2 = 0 ∧ tokAt l a = ⟨rd l a, 0, 0⟩) ∨ ∃ p n : Nat, Cand l a p ∧ a - p ≤ 255 ∧ n = lzRun l p a 200 0 ∧ 3 ≤ n ∧ n ≤ 200 ∧ (bestAt l a).2 = (n : Int) ∧ tokAt l a = ⟨0, ((a - p : Nat) : Int), (n : Int)⟩ := by
  by_cases ha : a + 3 ≤ l.length
  · rcases bestAt_of l a with h | ⟨p, hc, h1, h2, h3⟩
    · refine .inl ⟨by rw [h], ?_⟩
      unfold tokAt
      rw [h, if_pos rfl]
    · have h4 := cand_run l a p ha hc
      have h5 := lzRun_le l p a 200 0
      refine .inr ⟨p, lzRun l p a 200 0, hc, by omega, rfl, h4, by omega, h3, ?_⟩
      unfold tokAt
      have h6 := hc.1
      rw [h3, if_neg (by omega), h1]
      congr 1
      omega
  · refine .inl ⟨by unfold bestAt; rw [if_neg ha], ?_⟩
    unfold tokAt bestAt
    rw [if_neg ha, if_pos rfl]
theorem tok_len (l : List Int) (a : Nat) (ha : a ≤ l.length) : a + (bestAt l a).2.toNat ≤ l.length := (bestAt_in l a ha).2.2
theorem parse_tok (l : List Int) (a : Nat) (h : a < l.length) (f : Nat) : parseGo l (f + 1) a = tokAt l a :: parseGo l f (a + max (bestAt l a).2.toNat 1) := by rw [parseGo, if_pos h]
theorem parseGo_len (l : List Int) : ∀ (f a : Nat), a ≤ l.length → (parseGo l f a).length ≤ l.length - a
  | 0, a, _ => by rw [parseGo]; simp
  | f + 1, a, h => by
    rw [parseGo]
    split
    · have h1 := tok_len l a h
      have := parseGo_len l f (a + max (bestAt l a).2.toNat 1) (by omega)
      rw [List.length_cons]
      omega
    · simp

def copyN (acc : List Int) (d : Nat) : Nat → List Int
  | 0 => acc
  | n + 1 => copyN (acc ++ [acc.getD (acc.length - d) 0]) d n
theorem copyN_len (d : Nat) : ∀ (n : Nat) (acc : List Int), (copyN acc d n).length = acc.length + n
  | 0, acc => rfl
  | n + 1, acc => by rw [copyN, copyN_len d n]; simp; omega
theorem rdT (ts : List S46) (i : Nat) (t : S46) (r : List S46) (h : ts.drop i = t :: r) : rd_T46 ts (i : Int) = t ∧ i < ts.length := by
  have h1 : ts[i]? = some t := by
    have := congrArg List.head? h
    rw [List.head?_drop] at this
    exact this
  obtain ⟨hl, he⟩ := List.getElem?_eq_some_iff.1 h1
  exact ⟨by unfold rd_T46; rw [Int.toNat_natCast, List.getD_eq_getElem?_getD, h1]; rfl, hl⟩
theorem exp_l1 (ts : List S46) (L : Int) (i : Nat) (d n : Nat) (b : Int) (hi : i ≤ 5000) (hd : 1 ≤ d) (hn : n ≤ 200) : ∀ (m j k : Nat) (acc : List Int), j + m = n → d ≤ acc.length → acc.length + m ≤ 4096 →
    lz_Expand.l1 (k + m + 1) acc ts L (i : Int) (n : Int) (j : Int) b (d : Int) (n : Int) = lz_Expand.l0 k (copyN acc d m) ts L ((i + 1 : Nat) : Int) := by
  intro m
  induction m with
  | zero =>
    intro j k acc hj hda hl
    rw [lz_Expand.l1, if_neg (by omega), if_neg (by omega), wrap64_id (by omega) (by omega), copyN]
    congr 1
  | succ m ih =>
    intro j k acc hj hda hl
    rw [show k + (m + 1) + 1 = (k + m + 1) + 1 by omega, lz_Expand.l1, if_pos (by omega), wrap64_id (x := (acc.length : Int) - d) (by omega) (by omega), if_pos (by omega), if_pos (by omega), if_pos (by omega), wrap64_id (x := (j : Int) + 1) (by omega) (by omega), show (j : Int) + 1 = ((j + 1 : Nat) : Int) by omega, ih (j + 1) k _ (by omega) (by simp; omega) (by simp; omega), copyN, show (acc.length : Int) - d = ((acc.length - d : Nat) : Int) by omega, rdn]
/-- what a token makes -/
def tokOut (acc : List Int) (t : S46) : List Int := if t.f2 = 0 then acc ++ [t.f0] else copyN acc t.f1.toNat t.f2.toNat
theorem exp_tok (ts : List S46) (i : Nat) (t : S46) (r : List S46) (acc : List Int) (hts : ts.drop i = t :: r) (hi : ts.length ≤ 4096)
    (hg : (t.f1 = 0 ∧ t.f2 = 0) ∨ (t.f0 = 0 ∧ 1 ≤ t.f1 ∧ t.f1 ≤ 255 ∧ t.f1 ≤ acc.length ∧ 1 ≤ t.f2 ∧ t.f2 ≤ 200)) (hl : acc.length + max t.f2.toNat 1 ≤ 4096) (k : Nat) (hk : 207 ≤ k) :
    ∃ k', k ≤ k' + 207 ∧ lz_Expand.l0 k acc ts (ts.length : Int) (i : Int) = lz_Expand.l0 k' (tokOut acc t) ts (ts.length : Int) ((i + 1 : Nat) : Int) := by
  obtain ⟨h1, h2⟩ := rdT ts i t r hts
  rcases hg with ⟨g1, g2⟩ | ⟨g0, g1, g2, g3, g4, g5⟩
  · refine ⟨k - 7, by omega, ?_⟩
    obtain ⟨k, rfl⟩ : ∃ q, k = q + 7 := ⟨k - 7, by omega⟩
    rw [lz_Expand.l0, if_pos (by omega), if_pos (by omega), if_pos (by omega), h1, g1, g2, if_neg (by omega)]
    rw [lz_Expand.j1, if_neg (by decide), if_pos (by omega)]
    rw [lz_Expand.j2, show ((0 : Int) != 0) = false from rfl, if_neg (by decide), if_neg (by omega)]
    rw [lz_Expand.j3, show (decide ((0 : Int) > 200)) = false from rfl, if_neg (by decide), if_neg (by omega)]
    rw [lz_Expand.j4, if_pos rfl, if_pos (by omega)]
    rw [lz_Expand.j5]
    rw [lz_Expand.l1, if_neg (by omega), if_neg (by simp; omega), wrap64_id (by omega) (by omega)]
    unfold tokOut
    rw [if_pos g2]
    congr 1
  · obtain ⟨d, hd⟩ : ∃ d : Nat, t.f1 = (d : Int) := ⟨t.f1.toNat, by omega⟩
    obtain ⟨n, hn⟩ : ∃ n : Nat, t.f2 = (n : Int) := ⟨t.f2.toNat, by omega⟩
    refine ⟨k - (7 + n), by omega, ?_⟩
    obtain ⟨k, rfl⟩ : ∃ q, k = q + n + 7 := ⟨k - 7 - n, by omega⟩
    rw [lz_Expand.l0, if_pos (by omega), if_pos (by omega), if_pos (by omega), h1, g0, hd, hn, if_pos (by omega), show ((0 : Int) != 0) = false from rfl]
    rw [lz_Expand.j1, if_neg (by decide), if_neg (by omega)]
    rw [lz_Expand.j2, if_neg (by decide), if_neg (by omega), decide_eq_false (by omega : ¬ (n : Int) > 200)]
    rw [lz_Expand.j3, if_neg (by decide), if_pos (by omega), if_neg (by omega), if_neg (by omega), if_neg (by omega)]
    rw [lz_Expand.j4, if_neg (by omega)]
    rw [lz_Expand.j5, show (0 : Int) = ((0 : Nat) : Int) from rfl, exp_l1 ts _ i d n _ (by omega) (by omega) (by omega) n 0 k acc (by omega) (by omega) (by rw [hn, Int.toNat_natCast] at hl; omega)]
    unfold tokOut
    rw [if_neg (by omega), hd, hn, Int.toNat_natCast, Int.toNat_natCast, show k + n + 7 - (7 + n) = k by omega]
theorem copy_run (pre x : List Int) (a p d : Nat) (hp : p < a) (hd : d = a - p) : ∀ (m j : Nat), a + j + m ≤ x.length → (∀ i, j ≤ i → i < j + m → rd x ((p + i : Nat) : Int) = rd x ((a + i : Nat) : Int)) → copyN (pre ++ x.take (a + j)) d m = pre ++ x.take (a + j + m)
  | 0, j, _, _ => rfl
  | m + 1, j, h, hm => by
    have h1 := hm j (by omega) (by omega)
    rw [rdn, rdn] at h1
    have hl : (pre ++ x.take (a + j)).length - d = pre.length + (p + j) := by rw [List.length_append, List.length_take]; omega
    have hv : (pre ++ x.take (a + j)).getD (pre.length + (p + j)) 0 = x.getD (a + j) 0 := by
      rw [List.getD_eq_getElem?_getD, List.getElem?_append_right (by omega), show pre.length + (p + j) - pre.length = p + j by omega, List.getElem?_take_of_lt (by omega), ← List.getD_eq_getElem?_getD, h1]
    rw [copyN, hl, hv, List.append_assoc]
    have ht : x.take (a + j) ++ [x.getD (a + j) 0] = x.take (a + (j + 1)) := by
      rw [List.getD_eq_getElem?_getD, List.getElem?_eq_getElem (by omega : a + j < x.length), show a + (j + 1) = (a + j) + 1 by omega, List.take_succ_eq_append_getElem (by omega : a + j < x.length)]
      rfl
    rw [ht, copy_run pre x a p d hp hd m (j + 1) (by omega) (fun i hi hj => hm i (by omega) (by omega)), show a + (j + 1) + m = a + j + (m + 1) by omega]
theorem tokOut_at (pre x : List Int) (a : Nat) (ha : a < x.length) : tokOut (pre ++ x.take a) (tokAt x a) = pre ++ x.take (a + max (bestAt x a).2.toNat 1) := by
  rcases tok_good x a with ⟨h1, h2⟩ | ⟨p, n, hc, h1, h2, h3, h4, h5, h6⟩
  · rw [h2, h1]
    unfold tokOut
    rw [if_pos rfl, rdn, List.append_assoc]
    congr 1
    rw [List.getD_eq_getElem?_getD, List.getElem?_eq_getElem ha, show a + max (0 : Int).toNat 1 = a + 1 from rfl, List.take_succ_eq_append_getElem ha]
    rfl
  · rw [h6, h5]
    unfold tokOut
    have hin := tok_len x a (by omega)
    rw [h5] at hin
    rw [if_neg (show ¬ (n : Int) = 0 by omega), Int.toNat_natCast, Int.toNat_natCast, Nat.max_eq_left (by omega)]
    have := copy_run pre x a p (a - p) hc.1 rfl n 0 (by omega) (fun i hi hj => (lzRun_match x p a 200 0 i hi (by omega)).2)
    simpa using this
theorem exp_go (pre x : List Int) (hx : pre.length + x.length ≤ 4096) (ts : List S46) (hL : ts.length ≤ 4096) : ∀ (f a i : Nat) (B : List S46) (k : Nat), x.length ≤ a + f → a ≤ x.length → ts.drop i = parseGo x f a ++ B → 207 * (parseGo x f a).length ≤ k →
    ∃ k', k ≤ k' + 207 * (parseGo x f a).length ∧ lz_Expand.l0 k (pre ++ x.take a) ts (ts.length : Int) (i : Int) = lz_Expand.l0 k' (pre ++ x) ts (ts.length : Int) ((i + (parseGo x f a).length : Nat) : Int) := by
  intro f
  induction f with
  | zero =>
    intro a i B k h1 h2 h3 h4
    refine ⟨k, by omega, ?_⟩
    rw [parseGo, List.take_of_length_le (by omega)]
    rfl
  | succ f ih =>
    intro a i B k h1 h2 h3 h4
    by_cases c : a < x.length
    · rw [parse_tok x a c] at h3 h4 ⊢
      rw [List.length_cons] at h4 ⊢
      have hin := tok_len x a h2
      have hb := bestAt_in x a h2
      obtain ⟨k1, hk1, e1⟩ := exp_tok ts i (tokAt x a) (parseGo x f (a + max (bestAt x a).2.toNat 1) ++ B) (pre ++ x.take a) h3 hL (by
        rcases tok_good x a with ⟨g1, g2⟩ | ⟨p, n, hc, g1, g2, g3, g4, g5, g6⟩
        · exact .inl (by rw [g2]; exact ⟨rfl, rfl⟩)
        · refine .inr ?_
          have := hc.1
          rw [g6, List.length_append, List.length_take]
          refine ⟨rfl, ?_, ?_, ?_, ?_, ?_⟩ <;> show _ ≤ _ <;> simp only [] <;> omega) (by
        have : (tokAt x a).f2 = (bestAt x a).2 := rfl
        rw [this, List.length_append, List.length_take]
        omega) k (by omega)
      have hd : ts.drop (i + 1) = parseGo x f (a + max (bestAt x a).2.toNat 1) ++ B := by
        rw [← List.drop_drop, h3]
        rfl
      obtain ⟨k2, hk2, e2⟩ := ih (a + max (bestAt x a).2.toNat 1) (i + 1) B k1 (by omega) (by omega) hd (by omega)
      refine ⟨k2, by omega, ?_⟩
      rw [e1, tokOut_at pre x a c, e2]
      congr 2
      omega
    · rw [parseGo, if_neg c, List.take_of_length_le (by omega)]
      exact ⟨k, by simp, rfl⟩
theorem exp_end (acc : List Int) (ts : List S46) (i : Nat) (h : ts.length ≤ i) (k : Nat) (hk : 0 < k) : lz_Expand.l0 k acc ts (ts.length : Int) (i : Int) = some (acc, 0) := by
  obtain ⟨k, rfl⟩ : ∃ q, k = q + 1 := ⟨k - 1, by omega⟩
  rw [lz_Expand.l0, if_neg (by omega)]
/-- what was parsed is expanded as it was -/
theorem expand_parse (x : List Int) (hx : x.length ≤ 4000) (k : Nat) (hk : 1000000 ≤ k) : lz_Expand.f k (parseGo x x.length 0) = some (x, 0) := by
  have hl := parseGo_len x x.length 0 (by omega)
  unfold lz_Expand.f
  rw [if_neg (by omega)]
  obtain ⟨k', h1, h2⟩ := exp_go [] x (by simp; omega) (parseGo x x.length 0) (by omega) x.length 0 0 [] k (by omega) (by omega) (by simp) (by omega)
  rw [List.take_zero, List.append_nil, List.nil_append] at h2
  have h3 : lz_Expand.l0 k [] (parseGo x x.length 0) ((parseGo x x.length 0).length : Int) 0 = _ := h2
  rw [h3, exp_end _ _ _ (by omega) _ (by omega)]
theorem lzSure_eq (k : Nat) (hk : 1000000 ≤ k) : packthreadkeep_lzSure.f k = some true := by
  have h := exp_tok [(⟨7, 0, 0⟩ : S46), ⟨0, 1, 3⟩] 0 ⟨7, 0, 0⟩ [⟨0, 1, 3⟩] [] rfl (by decide) (.inl ⟨rfl, rfl⟩) (by decide) k (by omega)
  obtain ⟨k1, h1, e1⟩ := h
  have h := exp_tok [(⟨7, 0, 0⟩ : S46), ⟨0, 1, 3⟩] 1 ⟨0, 1, 3⟩ [] [7] rfl (by decide) (.inr (by decide)) (by decide) k1 (by omega)
  obtain ⟨k2, h2, e2⟩ := h
  unfold packthreadkeep_lzSure.f lz_Expand.f
  have e1' : lz_Expand.l0 k [] [(⟨7, 0, 0⟩ : S46), ⟨0, 1, 3⟩] (([(⟨7, 0, 0⟩ : S46), ⟨0, 1, 3⟩] : List S46).length : Int) 0 = _ := e1
  rw [if_neg (by decide), e1']
  show (lz_Expand.l0 k1 [7] [(⟨7, 0, 0⟩ : S46), ⟨0, 1, 3⟩] (([(⟨7, 0, 0⟩ : S46), ⟨0, 1, 3⟩] : List S46).length : Int) ((1 : Nat) : Int)).bind _ = _
  rw [e2, exp_end _ _ _ (by decide) _ (by omega), Option.bind_some]
  show (if (0 : Int) = 0 then (packthreadkeep_sameBytes.f k [7, 7, 7, 7] [7, 7, 7, 7]).bind _ else _) = _
  rw [if_pos rfl, sameb_eq k _ (by decide) (by simp; omega), Option.bind_some]

/-- some bytes, so often -/
def repL (p : List Int) : Nat → List Int
  | 0 => []
  | n + 1 => repL p n ++ p
theorem repL_len (p : List Int) : ∀ n, (repL p n).length = n * p.length
  | 0 => by simp [repL]
  | n + 1 => by rw [repL, List.length_append, repL_len p n, Nat.succ_mul]
theorem repL_get (p : List Int) : ∀ (n i : Nat), i < n * p.length → (repL p n).getD i 0 = p.getD (i % p.length) 0
  | 0, i, h => by omega
  | n + 1, i, h => by
    rw [Nat.succ_mul] at h
    have hl := repL_len p n
    rw [repL]
    by_cases c : i < n * p.length
    · rw [List.getD_eq_getElem?_getD, List.getElem?_append_left (by omega), ← List.getD_eq_getElem?_getD]
      exact repL_get p n i c
    · rw [List.getD_eq_getElem?_getD, List.getElem?_append_right (by omega), hl, ← List.getD_eq_getElem?_getD]
      have h2 : (i - n * p.length + n * p.length) % p.length = i - n * p.length := by rw [Nat.add_mul_mod_self_right, Nat.mod_eq_of_lt (by omega)]
      have this : i % p.length = i - n * p.length := by rwa [show i - n * p.length + n * p.length = i by omega] at h2
      rw [this]
theorem repL_period (p : List Int) (n i : Nat) (h : i + p.length < n * p.length) : rd (repL p n) ((i : Nat) : Int) = rd (repL p n) ((i + p.length : Nat) : Int) := by
  rw [rdn, rdn, repL_get p n i (by omega), repL_get p n _ h, Nat.add_mod_right]
theorem runs_far (p : List Int) (n : Nat) (hm : 1 ≤ p.length) (hm2 : p.length ≤ 61) : ∀ (f a : Nat), p.length ≤ a → a ≤ n * p.length → (parseGo (repL p n) f a).length ≤ (n * p.length - a) / 200 + 2
  | 0, a, _, _ => by rw [parseGo]; simp
  | f + 1, a, h1, h2 => by
    have hl := repL_len p n
    by_cases c : n * p.length - a < 3
    · have := parseGo_len (repL p n) (f + 1) a (by omega)
      omega
    · rw [parse_tok _ _ (by omega), List.length_cons]
      have hper : ∀ i, a + i < n * p.length → rd (repL p n) ((a - p.length + i : Nat) : Int) = rd (repL p n) ((a + i : Nat) : Int) := by
        intro i hi
        rw [repL_period p n (a - p.length + i) (by omega)]
        congr 2
        omega
      have hc : Cand (repL p n) a (a - p.length) := by
        refine ⟨by omega, by omega, ?_⟩
        unfold key3
        have e0 := hper 0 (by omega)
        have e1 := hper 1 (by omega)
        have e2 := hper 2 (by omega)
        rw [show ((a - p.length + 1 : Nat) : Int) = ((a - p.length : Nat) : Int) + 1 by omega, show ((a + 1 : Nat) : Int) = ((a : Nat) : Int) + 1 by omega] at e1
        rw [show ((a - p.length + 2 : Nat) : Int) = ((a - p.length : Nat) : Int) + 2 by omega, show ((a + 2 : Nat) : Int) = ((a : Nat) : Int) + 2 by omega] at e2
        rw [Nat.add_zero, Nat.add_zero] at e0
        rw [e0, e1, e2]
      have hmax := bestAt_max (repL p n) a (a - p.length) (by omega) hc (by omega)
      have hge := lzRun_ge (repL p n) (a - p.length) a 200 0 (min 200 (n * p.length - a)) (by omega) (fun i _ hi => ⟨by omega, hper i (by omega)⟩)
      have hin := bestAt_in (repL p n) a (by omega)
      by_cases c2 : n * p.length - a ≤ 200
      · have : n * p.length ≤ a + max (bestAt (repL p n) a).2.toNat 1 := by omega
        have hz : (parseGo (repL p n) f (a + max (bestAt (repL p n) a).2.toNat 1)).length ≤ (repL p n).length - (a + max (bestAt (repL p n) a).2.toNat 1) := parseGo_len _ _ _ (by omega)
        omega
      · have h200 : max (bestAt (repL p n) a).2.toNat 1 = 200 := by omega
        rw [h200]
        have := runs_far p n hm hm2 f (a + 200) (by omega) (by omega)
        omega
theorem runs_near (p : List Int) (n : Nat) (hm : 1 ≤ p.length) (hm2 : p.length ≤ 61) (hn : 1 ≤ n) : ∀ (f a : Nat), a ≤ p.length → (parseGo (repL p n) f a).length ≤ (p.length - a) + (n * p.length - p.length) / 200 + 2
  | 0, a, _ => by rw [parseGo]; simp
  | f + 1, a, h1 => by
    have hl := repL_len p n
    have hnm : p.length ≤ n * p.length := Nat.le_mul_of_pos_left _ hn
    by_cases c0 : a < p.length
    · rw [parse_tok _ _ (by omega), List.length_cons]
      have hin := bestAt_in (repL p n) a (by omega)
      by_cases c : a + max (bestAt (repL p n) a).2.toNat 1 ≤ p.length
      · have := runs_near p n hm hm2 hn f (a + max (bestAt (repL p n) a).2.toNat 1) c
        omega
      · have := runs_far p n hm hm2 f (a + max (bestAt (repL p n) a).2.toNat 1) (by omega) (by omega)
        have hdiv : (n * p.length - (a + max (bestAt (repL p n) a).2.toNat 1)) / 200 ≤ (n * p.length - p.length) / 200 := Nat.div_le_div_right (by omega)
        omega
    · have := runs_far p n hm hm2 (f + 1) a (by omega) (by omega)
      have hdiv : (n * p.length - a) / 200 ≤ (n * p.length - p.length) / 200 := Nat.div_le_div_right (by omega)
      omega
theorem runs_l0 (p : List Int) (n : Nat) (hm : 1 ≤ p.length) (hm2 : p.length ≤ 61) (hn : n < 20) : ∀ (m i k : Nat), i + m = n + 1 → 2000000 + m ≤ k →
    packthreadkeep_LzRuns.l0 k p (n : Int) (repL p i) (i : Int) = some true := by
  intro m
  induction m with
  | zero =>
    intro i k h1 h2
    obtain rfl : i = n + 1 := by omega
    obtain ⟨k, rfl⟩ : ∃ q, k = q + 1 := ⟨k - 1, by omega⟩
    have hl := repL_len p (n + 1)
    have hml : (n + 1) * p.length ≤ 20 * 61 := Nat.mul_le_mul (by omega) hm2
    have hnl : n * p.length ≤ 20 * 61 := Nat.mul_le_mul (by omega) hm2
    have hfx : lz_Parse.f (repL p (n + 1)) = some (parseGo (repL p (n + 1)) (repL p (n + 1)).length 0, 0) := by unfold lz_Parse.f; rw [if_neg (by omega)]
    have hr := runs_near p (n + 1) hm hm2 (by omega) (repL p (n + 1)).length 0 (by omega)
    rw [packthreadkeep_LzRuns.l0, if_neg (by omega), hfx, Option.bind_some]
    show (if (0 : Int) = 0 then ((packthreadkeep_lzSure.f k).bind fun t143 => (if t143 = true then (some (decide (((parseGo (repL p (n + 1)) (repL p (n + 1)).length 0).length : Int) ≤ (wrap64 ((wrap64 ((p.length : Int) + (wrap64 (Int.tdiv (wrap64 ((n : Int) * (p.length : Int))) 200)))) + 2))))) else (some false))) else (some false)) = some true
    have hmul : (n : Int) * (p.length : Int) = ((n * p.length : Nat) : Int) := (Int.natCast_mul _ _).symm
    have hsub : (n + 1) * p.length - p.length = n * p.length := by rw [Nat.succ_mul]; omega
    have htd : Int.tdiv ((n * p.length : Nat) : Int) 200 = ((n * p.length / 200 : Nat) : Int) := rfl
    rw [if_pos rfl, lzSure_eq k (by omega), Option.bind_some, if_pos rfl, hmul, wrap64_id (x := ((n * p.length : Nat) : Int)) (by omega) (by omega), htd, wrap64_id (x := ((n * p.length / 200 : Nat) : Int)) (by omega) (by omega), wrap64_id (x := (p.length : Int) + ((n * p.length / 200 : Nat) : Int)) (by omega) (by omega), wrap64_id (by omega) (by omega)]
    rw [hsub] at hr
    congr 1
    exact decide_eq_true (by omega)
  | succ m ih =>
    intro i k h1 h2
    obtain ⟨k, rfl⟩ : ∃ q, k = q + 1 := ⟨k - 1, by omega⟩
    have hl := repL_len p i
    have hml : i * p.length ≤ 20 * 61 := Nat.mul_le_mul (by omega) hm2
    rw [packthreadkeep_LzRuns.l0, if_pos (by omega), if_pos (by omega), wrap64_id (x := (i : Int) + 1) (by omega) (by omega), show (i : Int) + 1 = ((i + 1 : Nat) : Int) by omega]
    exact ih (i + 1) k (by omega) (by omega)
theorem LzRuns : packthreadkeep_LzRuns.Pure := by
  intro l0 a1 _ _ _ _
  obtain ⟨k, hk⟩ : ∃ k, 3000000 ≤ k := ⟨3000000, Nat.le_refl _⟩
  refine ⟨k, ?_⟩
  have hp0 := Int.emod_nonneg a1 (show (20 : Int) ≠ 0 by omega)
  have hp1 := Int.emod_lt_of_pos a1 (show (0 : Int) < 20 by omega)
  have ht : (l0.take 60).length ≤ 60 := by rw [List.length_take]; omega
  have hpl : (l0.take 60 ++ [5]).length = (l0.take 60).length + 1 := by rw [List.length_append]; rfl
  have := runs_l0 (l0.take 60 ++ [5]) (a1 % 20).toNat (by omega) (by omega) (by omega) ((a1 % 20).toNat + 1) 0 k (by omega) (by omega)
  unfold packthreadkeep_LzRuns.f
  rw [octets_eq l0 60 60 rfl (by decide), Option.bind_some, if_pos (by omega), picked_eq _ _ (by decide) (by decide), Option.bind_some]
  rw [show (((a1 % 20).toNat : Nat) : Int) = a1 % 20 by omega] at this
  exact this

end Go.Proofs.Ytknpmpfcmgjpdaa.Pure
