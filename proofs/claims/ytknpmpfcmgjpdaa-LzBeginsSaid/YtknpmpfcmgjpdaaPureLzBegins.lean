/- Proved: for every input the law LzBegins answers true: what stands behind does not change what stands ahead, but for the last run. Condition: none (every row of bytes, all numbers). -/
import Derived.Test.YtknpmpfcmgjpdaaPLzBeginsx6
namespace Go.Proofs.Ytknpmpfcmgjpdaa.Pure
open Go.RowKit Go.Proofs.Ytknpmpfcmgjpdaa.PLzBegins Go.Proofs.YtknpmpfcmgjpdaaW.PrintWords Go.Proofs.YtknpmpfcmgjpdaaW.PrintLast
set_option linter.unusedVariables false

theorem wrap64_id {x : Int} (h0 : -9223372036854775808 ≤ x) (h1 : x ≤ 9223372036854775807) : wrap64 x = x := by unfold wrap64; omega

theorem picked_eq (a n : Int) (h0 : 0 < n) (h1 : n ≤ 1000000000000) : packthreadkeep_Picked.f a n = some (a % n) := by
  unfold packthreadkeep_Picked.f
  rw [if_neg (by omega)]
  have hm := Int.tmod_eq_emod (a := a) (b := n)
  have hlo := Int.emod_nonneg a (show n ≠ 0 by omega)
  have hhi := Int.emod_lt_of_pos a h0
  by_cases hc : 0 ≤ a ∨ n ∣ a
  · rw [if_pos hc] at hm
    have e : a.tmod n = a % n := by rw [hm]; simp
    rw [e, if_neg (by omega)]
  · rw [if_neg hc] at hm
    have e : a.tmod n = a % n - n := by rw [hm]; congr 1; omega
    rw [e, if_pos (by omega), wrap64_id (by omega) (by omega)]
    congr 1; omega

def Oct (l : List Int) : Prop := ∀ x ∈ l, 0 ≤ x ∧ x ≤ 255
theorem oct_of {l : List Int} (h : ∀ x ∈ l, (Lit.int .u8 x).wf = true) : Oct l := fun x hx => by
  have := h x hx
  simp [Lit.wf, IntKind.min, IntKind.max, IntKind.signed, IntKind.bits] at this
  omega
theorem Oct.take {l : List Int} (h : Oct l) (n : Nat) : Oct (l.take n) := fun x hx => h x (List.mem_of_mem_take hx)
theorem Oct.append {a b : List Int} (h : Oct a) (g : Oct b) : Oct (a ++ b) := fun x hx => by
  rcases List.mem_append.1 hx with h1 | h1
  · exact h x h1
  · exact g x h1
theorem Oct.set {l : List Int} (h : Oct l) (i : Nat) (v : Int) (h0 : 0 ≤ v) (h1 : v ≤ 255) : Oct (l.set i v) := fun x hx => by
  rcases List.mem_or_eq_of_mem_set hx with h2 | h2
  · exact h x h2
  · subst h2; exact ⟨h0, h1⟩
theorem Oct.getD {l : List Int} (h : Oct l) (i : Nat) : 0 ≤ l.getD i 0 ∧ l.getD i 0 ≤ 255 := by
  by_cases c : i < l.length
  · rw [List.getD_eq_getElem?_getD, List.getElem?_eq_getElem c]; exact h _ (List.getElem_mem c)
  · rw [List.getD_eq_getElem?_getD, List.getElem?_eq_none (by omega)]; simp
theorem octets_eq (l : List Int) (n : Int) (m : Nat) (hm : n = (m : Int)) (hn : m ≤ 1000000) : packthreadkeep_Octets.f l n = some (l.take m) := by
  subst hm
  have e : (mn (l.length : Int) m).toNat = min l.length m := by unfold mn; split <;> omega
  have e0 : 0 ≤ mn (l.length : Int) m := by unfold mn; split <;> omega
  have e1 : mn (l.length : Int) m ≤ l.length := by unfold mn; split <;> omega
  unfold packthreadkeep_Octets.f
  rw [if_pos e0, if_pos e1, e, if_pos (by rw [List.length_take, List.length_nil]; omega), List.nil_append]
  congr 1
  by_cases c : l.length ≤ m
  · rw [Nat.min_eq_left c, List.take_length, List.take_of_length_le c]
  · rw [Nat.min_eq_right (by omega)]

theorem sameb_l0 (l : List Int) (hL : l.length ≤ 100000) : ∀ (m i k : Nat), i + m = l.length → m < k → packthreadkeep_sameBytes.l0 k l l (i : Int) = some true := by
  intro m
  induction m with
  | zero =>
    intro i k hi hk
    obtain ⟨k, rfl⟩ : ∃ q, k = q + 1 := ⟨k - 1, by omega⟩
    rw [packthreadkeep_sameBytes.l0, if_neg (by omega)]
  | succ m ih =>
    intro i k hi hk
    obtain ⟨k, rfl⟩ : ∃ q, k = q + 1 := ⟨k - 1, by omega⟩
    have hw1 : wrap64 ((i : Int) + 1) = ((i + 1 : Nat) : Int) := by rw [wrap64_id (by omega) (by omega)]; omega
    rw [packthreadkeep_sameBytes.l0, if_pos (by omega), if_pos (by omega), if_pos (by omega), if_pos rfl, hw1]
    exact ih (i + 1) k (by omega) (by omega)
theorem sameb_eq (k : Nat) (l : List Int) (hL : l.length ≤ 100000) (hk : l.length < k) : packthreadkeep_sameBytes.f k l l = some true := by
  unfold packthreadkeep_sameBytes.f
  rw [if_pos rfl]
  exact sameb_l0 l hL l.length 0 k (by omega) (by omega)

theorem rdn (x : List Int) (i : Nat) : rd x (i : Int) = x.getD i 0 := by rw [rd, Int.toNat_natCast]
theorem lzRun_match (l : List Int) (p a : Nat) : ∀ f n i, n ≤ i → i < lzRun l p a f n → a + i < l.length ∧ rd l ((p + i : Nat) : Int) = rd l ((a + i : Nat) : Int)
  | 0, n, i, h1, h2 => by rw [lzRun] at h2; omega
  | f + 1, n, i, h1, h2 => by
    rw [lzRun] at h2
    split at h2
    · rename_i hc
      by_cases c : i = n
      · subst c; exact hc
      · exact lzRun_match l p a f (n + 1) i (by omega) h2
    · omega
theorem lzRun_ge (l : List Int) (p a : Nat) : ∀ f n m, m ≤ f → (∀ i, n ≤ i → i < n + m → a + i < l.length ∧ rd l ((p + i : Nat) : Int) = rd l ((a + i : Nat) : Int)) → n + m ≤ lzRun l p a f n
  | 0, n, m, h1, h2 => by rw [lzRun]; omega
  | f + 1, n, m, h1, h2 => by
    rw [lzRun]
    cases m with
    | zero =>
      split
      · have : n + 1 + 0 ≤ lzRun l p a f (n + 1) := lzRun_ge l p a f (n + 1) 0 (by omega) (fun i hi hj => by omega)
        omega
      · omega
    | succ m =>
      rw [if_pos (h2 n (by omega) (by omega))]
      have := lzRun_ge l p a f (n + 1) m (by omega) (fun i hi hj => h2 i (by omega) (by omega))
      omega
/-- a place ahead of a at which the same three bytes stand -/
def Cand (l : List Int) (a p : Nat) : Prop := p < a ∧ p + 3 ≤ l.length ∧ key3 l (p : Nat) = key3 l (a : Nat)
theorem poss_cand (l : List Int) (a : Nat) (z : Int) : z ∈ poss l a (key3 l a) ↔ ∃ p : Nat, z = (p : Int) ∧ Cand l a p := by
  unfold poss Cand
  rw [List.mem_map]
  constructor
  · rintro ⟨p, hp, rfl⟩
    obtain ⟨h1, h2⟩ := List.mem_filter.1 hp
    obtain ⟨h3, h4⟩ := of_decide_eq_true h2
    exact ⟨p, rfl, List.mem_range.1 h1, h3, h4⟩
  · rintro ⟨p, rfl, h1, h2, h3⟩
    exact ⟨p, List.mem_filter.2 ⟨List.mem_range.2 h1, decide_eq_true ⟨h2, h3⟩⟩, rfl⟩
theorem poss_desc (l : List Int) (a : Nat) (k : Int × Int × Int) : (poss l a k).reverse.Pairwise (fun x y => y < x) := by
  unfold poss
  rw [List.pairwise_reverse, List.pairwise_map]
  have h : (List.range a).Pairwise (fun x y => ((x : Nat) : Int) < ((y : Nat) : Int)) := by
    have := List.pairwise_lt_range (n := a)
    exact this.imp (fun h => by omega)
  exact h.filter _
theorem cand_run (l : List Int) (a p : Nat) (ha : a + 3 ≤ l.length) (h : Cand l a p) : 3 ≤ lzRun l p a 200 0 := by
  obtain ⟨h1, h2, h3⟩ := h
  unfold key3 at h3
  simp only [Prod.mk.injEq] at h3
  obtain ⟨e0, e1, e2⟩ := h3
  have := lzRun_ge l p a 200 0 3 (by omega) (fun i hi hj => ⟨by omega, by
    obtain h | h | h : i = 0 ∨ i = 1 ∨ i = 2 := by omega
    · subst h; exact e0
    · subst h
      rw [show ((p + 1 : Nat) : Int) = (p : Int) + 1 by omega, show ((a + 1 : Nat) : Int) = (a : Int) + 1 by omega]; exact e1
    · subst h
      rw [show ((p + 2 : Nat) : Int) = (p : Int) + 2 by omega, show ((a + 2 : Nat) : Int) = (a : Int) + 2 by omega]; exact e2⟩)
  omega
/-- what a best run is -/
def BestOf (l : List Int) (a : Nat) (t : Int × Int) : Prop := t = (0, 0) ∨ ∃ p : Nat, Cand l a p ∧ t.1 = (a : Int) - p ∧ t.1 ≤ 255 ∧ t.2 = ((lzRun l p a 200 0 : Nat) : Int)
theorem bestGo_of (l : List Int) (a : Nat) : ∀ (ps : List Int) (t : Int × Int), (∀ z, z ∈ ps → ∃ p : Nat, z = (p : Int) ∧ Cand l a p) → BestOf l a t → BestOf l a (bestGo l a ps t)
  | [], t, _, h => h
  | z :: ps, t, hp, h => by
    obtain ⟨p, rfl, hc⟩ := hp z List.mem_cons_self
    rw [bestGo]
    split
    · refine bestGo_of l a ps _ (fun y hy => hp y (List.mem_cons_of_mem _ hy)) ?_
      split
      · exact .inr ⟨p, hc, rfl, by assumption, by rw [Int.toNat_natCast]⟩
      · exact h
    · exact h
theorem bestGo_mono (l : List Int) (a : Nat) : ∀ (ps : List Int) (t : Int × Int), t.2 ≤ (bestGo l a ps t).2
  | [], t => Int.le_refl _
  | z :: ps, t => by
    rw [bestGo]
    split
    · refine Int.le_trans ?_ (bestGo_mono l a ps _)
      split
      · exact Int.le_of_lt (by assumption)
      · exact Int.le_refl _
    · exact Int.le_refl _
theorem bestGo_max (l : List Int) (a : Nat) (p : Nat) (hd : (a : Int) - p ≤ 255) : ∀ (ps : List Int) (t : Int × Int), ps.Pairwise (fun x y => y < x) → (p : Int) ∈ ps → ((lzRun l p a 200 0 : Nat) : Int) ≤ (bestGo l a ps t).2
  | [], t, _, h => by simp at h
  | z :: ps, t, hs, h => by
    rw [List.pairwise_cons] at hs
    rw [bestGo]
    rcases List.mem_cons.1 h with e | h
    · subst e
      rw [if_pos hd, Int.toNat_natCast]
      refine Int.le_trans ?_ (bestGo_mono l a ps _)
      split
      · exact Int.le_refl _
      · omega
    · have := hs.1 _ h
      rw [if_pos (by omega)]
      exact bestGo_max l a p hd ps _ hs.2 h
theorem bestAt_of (l : List Int) (a : Nat) : BestOf l a (bestAt l a) := by
  unfold bestAt
  split
  · exact bestGo_of l a _ _ (fun z hz => (poss_cand l a z).1 (List.mem_reverse.1 hz)) (.inl rfl)
  · exact .inl rfl
theorem bestAt_max (l : List Int) (a p : Nat) (ha : a + 3 ≤ l.length) (hc : Cand l a p) (hd : (a : Int) - p ≤ 255) : ((lzRun l p a 200 0 : Nat) : Int) ≤ (bestAt l a).2 := by
  unfold bestAt
  rw [if_pos ha]
  exact bestGo_max l a p hd _ _ (poss_desc l a _) (List.mem_reverse.2 ((poss_cand l a _).2 ⟨p, rfl, hc⟩))
/-- a token at a place: a byte, or a run -/
theorem tok_good (l : List Int) (a : Nat) : ((bestAt l a).2 = 0 ∧ tokAt l a = ⟨rd l a, 0, 0⟩) ∨ ∃ p n : Nat, Cand l a p ∧ a - p ≤ 255 ∧ n = lzRun l p a 200 0 ∧ 3 ≤ n ∧ n ≤ 200 ∧ (bestAt l a).2 = (n : Int) ∧ tokAt l a = ⟨0, ((a - p : Nat) : Int), (n : Int)⟩ := by
  by_cases ha : a + 3 ≤ l.length
  · rcases bestAt_of l a with h | ⟨p, hc, h1, h2, h3⟩
    · refine .inl ⟨by rw [h], ?_⟩
      unfold tokAt
      rw [h, if_pos rfl]
    · have h4 := cand_run l a p ha hc
      have h5 := lzRun_le l p a 200 0
      refine .inr ⟨p, lzRun l p a 200 0, hc, by omega, rfl, h4, by omega, h3, ?_⟩
      unfold tokAt
      have h6 := hc.1
      rw [h3, if_neg (by omega), h1]
      congr 1
      omega
  · refine .inl ⟨by unfold bestAt; rw [if_neg ha], ?_⟩
    unfold tokAt bestAt
    rw [if_neg ha, if_pos rfl]
theorem tok_len (l : List Int) (a : Nat) (ha : a ≤ l.length) : a + (bestAt l a).2.toNat ≤ l.length := (bestAt_in l a ha).2.2
theorem parse_tok (l : List Int) (a : Nat) (h : a < l.length) (f : Nat) : parseGo l (f + 1) a = tokAt l a :: parseGo l f (a + max (bestAt l a).2.toNat 1) := by rw [parseGo, if_pos h]
theorem parseGo_len (l : List Int) : ∀ (f a : Nat), a ≤ l.length → (parseGo l f a).length ≤ l.length - a
  | 0, a, _ => by rw [parseGo]; simp
  | f + 1, a, h => by
    rw [parseGo]
    split
    · have h1 := tok_len l a h
      have := parseGo_len l f (a + max (bestAt l a).2.toNat 1) (by omega)
      rw [List.length_cons]
      omega
    · simp

def copyN (acc : List Int) (d : Nat) : Nat → List Int
  | 0 => acc
  | n + 1 => copyN (acc ++ [acc.getD (acc.length - d) 0]) d n
theorem copyN_len (d : Nat) : ∀ (n : Nat) (acc : List Int), (copyN acc d n).length = acc.length + n
  | 0, acc => rfl
  | n + 1, acc => by rw [copyN, copyN_len d n]; simp; omega
theorem rdT (ts : List S46) (i : Nat) (t : S46) (r : List S46) (h : ts.drop i = t :: r) : rd_T46 ts (i : Int) = t ∧ i < ts.length := by
  have h1 : ts[i]? = some t := by
    have := congrArg List.head? h
    rw [List.head?_drop] at this
    exact this
  obtain ⟨hl, he⟩ := List.getElem?_eq_some_iff.1 h1
  exact ⟨by unfold rd_T46; rw [Int.toNat_natCast, List.getD_eq_getElem?_getD, h1]; rfl, hl⟩
theorem exp_l1 (ts : List S46) (L : Int) (i : Nat) (d n : Nat) (b : Int) (hi : i ≤ 5000) (hd : 1 ≤ d) (hn : n ≤ 200) : ∀ (m j k : Nat) (acc : List Int), j + m = n → d ≤ acc.length → acc.length + m ≤ 4096 →
    lz_Expand.l1 (k + m + 1) acc ts L (i : Int) (n : Int) (j : Int) b (d : Int) (n : Int) = lz_Expand.l0 k (copyN acc d m) ts L ((i + 1 : Nat) : Int) := by
  intro m
  induction m with
  | zero =>
    intro j k acc hj hda hl
    rw [lz_Expand.l1, if_neg (by omega), if_neg (by omega), wrap64_id (by omega) (by omega), copyN]
    congr 1
  | succ m ih =>
    intro j k acc hj hda hl
    rw [show k + (m + 1) + 1 = (k + m + 1) + 1 by omega, lz_Expand.l1, if_pos (by omega), wrap64_id (x := (acc.length : Int) - d) (by omega) (by omega), if_pos (by omega), if_pos (by omega), if_pos (by omega), wrap64_id (x := (j : Int) + 1) (by omega) (by omega), show (j : Int) + 1 = ((j + 1 : Nat) : Int) by omega, ih (j + 1) k _ (by omega) (by simp; omega) (by simp; omega), copyN, show (acc.length : Int) - d = ((acc.length - d : Nat) : Int) by omega, rdn]
/-- what a token makes -/
def tokOut (acc : List Int) (t : S46) : List Int := if t.f2 = 0 then acc ++ [t.f0] else copyN acc t.f1.toNat t.f2.toNat
theorem exp_tok (ts : List S46) (i : Nat) (t : S46) (r : List S46) (acc : List Int) (hts : ts.drop i = t :: r) (hi : ts.length ≤ 4096)
    (hg : (t.f1 = 0 ∧ t.f2 = 0) ∨ (t.f0 = 0 ∧ 1 ≤ t.f1 ∧ t.f1 ≤ 255 ∧ t.f1 ≤ acc.length ∧ 1 ≤ t.f2 ∧ t.f2 ≤ 200)) (hl : acc.length + max t.f2.toNat 1 ≤ 4096) (k : Nat) (hk : 207 ≤ k) :
    ∃ k', k ≤ k' + 207 ∧ lz_Expand.l0 k acc ts (ts.length : Int) (i : Int) = lz_Expand.l0 k' (tokOut acc t) ts (ts.length : Int) ((i + 1 : Nat) : Int) := by
  obtain ⟨h1, h2⟩ := rdT ts i t r hts
  rcases hg with ⟨g1, g2⟩ | ⟨g0, g1, g2, g3, g4, g5⟩
  · refine ⟨k - 7, by omega, ?_⟩
    obtain ⟨k, rfl⟩ : ∃ q, k = q + 7 := ⟨k - 7, by omega⟩
    rw [lz_Expand.l0, if_pos (by omega), if_pos (by omega), if_pos (by omega), h1, g1, g2, if_neg (by omega)]
    rw [lz_Expand.j1, if_neg (by decide), if_pos (by omega)]
    rw [lz_Expand.j2, show ((0 : Int) != 0) = false from rfl, if_neg (by decide), if_neg (by omega)]
    rw [lz_Expand.j3, show (decide ((0 : Int) > 200)) = false from rfl, if_neg (by decide), if_neg (by omega)]
    rw [lz_Expand.j4, if_pos rfl, if_pos (by omega)]
    rw [lz_Expand.j5]
    rw [lz_Expand.l1, if_neg (by omega), if_neg (by simp; omega), wrap64_id (by omega) (by omega)]
    unfold tokOut
    rw [if_pos g2]
    congr 1
  · obtain ⟨d, hd⟩ : ∃ d : Nat, t.f1 = (d : Int) := ⟨t.f1.toNat, by omega⟩
    obtain ⟨n, hn⟩ : ∃ n : Nat, t.f2 = (n : Int) := ⟨t.f2.toNat, by omega⟩
    refine ⟨k - (7 + n), by omega, ?_⟩
    obtain ⟨k, rfl⟩ : ∃ q, k = q + n + 7 := ⟨k - 7 - n, by omega⟩
    rw [lz_Expand.l0, if_pos (by omega), if_pos (by omega), if_pos (by omega), h1, g0, hd, hn, if_pos (by omega), show ((0 : Int) != 0) = false from rfl]
    rw [lz_Expand.j1, if_neg (by decide), if_neg (by omega)]
    rw [lz_Expand.j2, if_neg (by decide), if_neg (by omega), decide_eq_false (by omega : ¬ (n : Int) > 200)]
    rw [lz_Expand.j3, if_neg (by decide), if_pos (by omega), if_neg (by omega), if_neg (by omega), if_neg (by omega)]
    rw [lz_Expand.j4, if_neg (by omega)]
    rw [lz_Expand.j5, show (0 : Int) = ((0 : Nat) : Int) from rfl, exp_l1 ts _ i d n _ (by omega) (by omega) (by omega) n 0 k acc (by omega) (by omega) (by rw [hn, Int.toNat_natCast] at hl; omega)]
    unfold tokOut
    rw [if_neg (by omega), hd, hn, Int.toNat_natCast, Int.toNat_natCast, show k + n + 7 - (7 + n) = k by omega]
theorem copy_run (pre x : List Int) (a p d : Nat) (hp : p < a) (hd : d = a - p) : ∀ (m j : Nat), a + j + m ≤ x.length → (∀ i, j ≤ i → i < j + m → rd x ((p + i : Nat) : Int) = rd x ((a + i : Nat) : Int)) → copyN (pre ++ x.take (a + j)) d m = pre ++ x.take (a + j + m)
  | 0, j, _, _ => rfl
  | m + 1, j, h, hm => by
    have h1 := hm j (by omega) (by omega)
    rw [rdn, rdn] at h1
    have hl : (pre ++ x.take (a + j)).length - d = pre.length + (p + j) := by rw [List.length_append, List.length_take]; omega
    have hv : (pre ++ x.take (a + j)).getD (pre.length + (p + j)) 0 = x.getD (a + j) 0 := by
      rw [List.getD_eq_getElem?_getD, List.getElem?_append_right (by omega), show pre.length + (p + j) - pre.length = p + j by omega, List.getElem?_take_of_lt (by omega), ← List.getD_eq_getElem?_getD, h1]
    rw [copyN, hl, hv, List.append_assoc]
    have ht : x.take (a + j) ++ [x.getD (a + j) 0] = x.take (a + (j + 1)) := by
      rw [List.getD_eq_getElem?_getD, List.getElem?_eq_getElem (by omega : a + j < x.length), show a + (j + 1) = (a + j) + 1 by omega, List.take_succ_eq_append_getElem (by omega : a + j < x.length)]
      rfl
    rw [ht, copy_run pre x a p d hp hd m (j + 1) (by omega) (fun i hi hj => hm i (by omega) (by omega)), show a + (j + 1) + m = a + j + (m + 1) by omega]
theorem tokOut_at (pre x : List Int) (a : Nat) (ha : a < x.length) : tokOut (pre ++ x.take a) (tokAt x a) = pre ++ x.take (a + max (bestAt x a).2.toNat 1) := by
  rcases tok_good x a with ⟨h1, h2⟩ | ⟨p, n, hc, h1, h2, h3, h4, h5, h6⟩
  · rw [h2, h1]
    unfold tokOut
    rw [if_pos rfl, rdn, List.append_assoc]
    congr 1
    rw [List.getD_eq_getElem?_getD, List.getElem?_eq_getElem ha, show a + max (0 : Int).toNat 1 = a + 1 from rfl, List.take_succ_eq_append_getElem ha]
    rfl
  · rw [h6, h5]
    unfold tokOut
    have hin := tok_len x a (by omega)
    rw [h5] at hin
    rw [if_neg (show ¬ (n : Int) = 0 by omega), Int.toNat_natCast, Int.toNat_natCast, Nat.max_eq_left (by omega)]
    have := copy_run pre x a p (a - p) hc.1 rfl n 0 (by omega) (fun i hi hj => (lzRun_match x p a 200 0 i hi (by omega)).2)
    simpa using this
theorem exp_go (pre x : List Int) (hx : pre.length + x.length ≤ 4096) (ts : List S46) (hL : ts.length ≤ 4096) : ∀ (f a i : Nat) (B : List S46) (k : Nat), x.length ≤ a + f → a ≤ x.length → ts.drop i = parseGo x f a ++ B → 207 * (parseGo x f a).length ≤ k →
    ∃ k', k ≤ k' + 207 * (parseGo x f a).length ∧ lz_Expand.l0 k (pre ++ x.take a) ts (ts.length : Int) (i : Int) = lz_Expand.l0 k' (pre ++ x) ts (ts.length : Int) ((i + (parseGo x f a).length : Nat) : Int) := by
  intro f
  induction f with
  | zero =>
    intro a i B k h1 h2 h3 h4
    refine ⟨k, by omega, ?_⟩
    rw [parseGo, List.take_of_length_le (by omega)]
    rfl
  | succ f ih =>
    intro a i B k h1 h2 h3 h4
    by_cases c : a < x.length
    · rw [parse_tok x a c] at h3 h4 ⊢
      rw [List.length_cons] at h4 ⊢
      have hin := tok_len x a h2
      have hb := bestAt_in x a h2
      obtain ⟨k1, hk1, e1⟩ := exp_tok ts i (tokAt x a) (parseGo x f (a + max (bestAt x a).2.toNat 1) ++ B) (pre ++ x.take a) h3 hL (by
        rcases tok_good x a with ⟨g1, g2⟩ | ⟨p, n, hc, g1, g2, g3, g4, g5, g6⟩
        · exact .inl (by rw [g2]; exact ⟨rfl, rfl⟩)
        · refine .inr ?_
          have := hc.1
          rw [g6, List.length_append, List.length_take]
          refine ⟨rfl, ?_, ?_, ?_, ?_, ?_⟩ <;> show _ ≤ _ <;> simp only [] <;> omega) (by
        have : (tokAt x a).f2 = (bestAt x a).2 := rfl
        rw [this, List.length_append, List.length_take]
        omega) k (by omega)
      have hd : ts.drop (i + 1) = parseGo x f (a + max (bestAt x a).2.toNat 1) ++ B := by
        rw [← List.drop_drop, h3]
        rfl
      obtain ⟨k2, hk2, e2⟩ := ih (a + max (bestAt x a).2.toNat 1) (i + 1) B k1 (by omega) (by omega) hd (by omega)
      refine ⟨k2, by omega, ?_⟩
      rw [e1, tokOut_at pre x a c, e2]
      congr 2
      omega
    · rw [parseGo, if_neg c, List.take_of_length_le (by omega)]
      exact ⟨k, by simp, rfl⟩
theorem exp_end (acc : List Int) (ts : List S46) (i : Nat) (h : ts.length ≤ i) (k : Nat) (hk : 0 < k) : lz_Expand.l0 k acc ts (ts.length : Int) (i : Int) = some (acc, 0) := by
  obtain ⟨k, rfl⟩ : ∃ q, k = q + 1 := ⟨k - 1, by omega⟩
  rw [lz_Expand.l0, if_neg (by omega)]
/-- what was parsed is expanded as it was -/
theorem expand_parse (x : List Int) (hx : x.length ≤ 4000) (k : Nat) (hk : 1000000 ≤ k) : lz_Expand.f k (parseGo x x.length 0) = some (x, 0) := by
  have hl := parseGo_len x x.length 0 (by omega)
  unfold lz_Expand.f
  rw [if_neg (by omega)]
  obtain ⟨k', h1, h2⟩ := exp_go [] x (by simp; omega) (parseGo x x.length 0) (by omega) x.length 0 0 [] k (by omega) (by omega) (by simp) (by omega)
  rw [List.take_zero, List.append_nil, List.nil_append] at h2
  have h3 : lz_Expand.l0 k [] (parseGo x x.length 0) ((parseGo x x.length 0).length : Int) 0 = _ := h2
  rw [h3, exp_end _ _ _ (by omega) _ (by omega)]
theorem lzSure_eq (k : Nat) (hk : 1000000 ≤ k) : packthreadkeep_lzSure.f k = some true := by
  have h := exp_tok [(⟨7, 0, 0⟩ : S46), ⟨0, 1, 3⟩] 0 ⟨7, 0, 0⟩ [⟨0, 1, 3⟩] [] rfl (by decide) (.inl ⟨rfl, rfl⟩) (by decide) k (by omega)
  obtain ⟨k1, h1, e1⟩ := h
  have h := exp_tok [(⟨7, 0, 0⟩ : S46), ⟨0, 1, 3⟩] 1 ⟨0, 1, 3⟩ [] [7] rfl (by decide) (.inr (by decide)) (by decide) k1 (by omega)
  obtain ⟨k2, h2, e2⟩ := h
  unfold packthreadkeep_lzSure.f lz_Expand.f
  have e1' : lz_Expand.l0 k [] [(⟨7, 0, 0⟩ : S46), ⟨0, 1, 3⟩] (([(⟨7, 0, 0⟩ : S46), ⟨0, 1, 3⟩] : List S46).length : Int) 0 = _ := e1
  rw [if_neg (by decide), e1']
  show (lz_Expand.l0 k1 [7] [(⟨7, 0, 0⟩ : S46), ⟨0, 1, 3⟩] (([(⟨7, 0, 0⟩ : S46), ⟨0, 1, 3⟩] : List S46).length : Int) ((1 : Nat) : Int)).bind _ = _
  rw [e2, exp_end _ _ _ (by decide) _ (by omega), Option.bind_some]
  show (if (0 : Int) = 0 then (packthreadkeep_sameBytes.f k [7, 7, 7, 7] [7, 7, 7, 7]).bind _ else _) = _
  rw [if_pos rfl, sameb_eq k _ (by decide) (by simp; omega), Option.bind_some]

theorem few_l0 (c : Int) (hc : c % 256 ≠ 0) : ∀ (m i k : Nat) (x : List Int), i + m = x.length → m < k → x.length ≤ 100000 → ∃ y, packthreadkeep_Few.l0 k c x (i : Int) = some y ∧ y.length = x.length := by
  intro m
  induction m with
  | zero =>
    intro i k x h1 h2 h3
    obtain ⟨k, rfl⟩ : ∃ q, k = q + 1 := ⟨k - 1, by omega⟩
    exact ⟨x, by rw [packthreadkeep_Few.l0, if_neg (by omega)], rfl⟩
  | succ m ih =>
    intro i k x h1 h2 h3
    obtain ⟨k, rfl⟩ : ∃ q, k = q + 1 := ⟨k - 1, by omega⟩
    rw [packthreadkeep_Few.l0, if_pos (by omega), if_pos (by omega), if_neg hc, wrap64_id (x := (i : Int) + 1) (by omega) (by omega), show (i : Int) + 1 = ((i + 1 : Nat) : Int) by omega]
    obtain ⟨y, h4, h5⟩ := ih (i + 1) k (x.set ((i : Nat) : Int).toNat (Int.tmod (rd x (i : Int)) (c % 256))) (by rw [List.length_set]; omega) (by omega) (by rw [List.length_set]; exact h3)
    exact ⟨y, h4, by rw [h5, List.length_set]⟩
theorem few_eq (k : Nat) (l : List Int) (c n : Int) (m : Nat) (hm : n = (m : Int)) (hn : m ≤ 1000) (h0 : 1 ≤ c) (h1 : c ≤ 255) (hk : 2000 ≤ k) : ∃ x, packthreadkeep_Few.f k l c n = some x ∧ x.length ≤ m := by
  unfold packthreadkeep_Few.f
  rw [octets_eq l n m hm (by omega), Option.bind_some]
  have ht : (l.take m).length ≤ m := by rw [List.length_take]; omega
  obtain ⟨x, h2, h3⟩ := few_l0 c (by omega) (l.take m).length 0 k (l.take m) (by omega) (by omega) (by omega)
  exact ⟨x, h2, by omega⟩

theorem rd_take (x : List Int) (n i : Nat) (h : i < n) : rd (x.take n) (i : Int) = rd x (i : Int) := by
  rw [rdn, rdn, List.getD_eq_getElem?_getD, List.getD_eq_getElem?_getD, List.getElem?_take_of_lt h]
theorem key_take (x : List Int) (n p : Nat) (h : p + 3 ≤ n) : key3 (x.take n) (p : Nat) = key3 x (p : Nat) := by
  unfold key3
  rw [show ((p : Nat) : Int) + 1 = ((p + 1 : Nat) : Int) by omega, show ((p : Nat) : Int) + 2 = ((p + 2 : Nat) : Int) by omega, rd_take x n p (by omega), rd_take x n (p + 1) (by omega), rd_take x n (p + 2) (by omega)]
theorem run_take (x : List Int) (n p a : Nat) (hp : p < a) (hn : n ≤ x.length) : ∀ f j, a + lzRun x p a f j ≤ n → lzRun (x.take n) p a f j = lzRun x p a f j
  | 0, j, _ => rfl
  | f + 1, j, h => by
    have hl : (x.take n).length = n := by rw [List.length_take]; omega
    rw [lzRun] at h ⊢
    rw [lzRun]
    by_cases c : a + j < x.length ∧ rd x ((p + j : Nat) : Int) = rd x ((a + j : Nat) : Int)
    · rw [if_pos c] at h ⊢
      have h0 : j + 1 ≤ lzRun x p a f (j + 1) := lzRun_ge x p a f (j + 1) 0 (by omega) (fun i h1 h2 => by omega)
      rw [if_pos (by rw [hl, rd_take x n _ (by omega), rd_take x n _ (by omega)]; exact ⟨by omega, c.2⟩)]
      exact run_take x n p a hp hn f (j + 1) h
    · rw [if_neg c] at h ⊢
      rw [if_neg]
      rintro ⟨h1, h2⟩
      rw [hl] at h1
      rw [rd_take x n _ (by omega), rd_take x n _ (by omega)] at h2
      exact c ⟨by omega, h2⟩
theorem cand_take (x : List Int) (n a p : Nat) (hn : n ≤ x.length) (ha : a + 3 ≤ n) : Cand (x.take n) a p ↔ Cand x a p := by
  have hl : (x.take n).length = n := by rw [List.length_take]; omega
  unfold Cand
  constructor
  · rintro ⟨h1, h2, h3⟩
    rw [key_take x n p (by omega), key_take x n a ha] at h3
    exact ⟨h1, by omega, h3⟩
  · rintro ⟨h1, h2, h3⟩
    refine ⟨h1, by omega, ?_⟩
    rw [key_take x n p (by omega), key_take x n a ha]
    exact h3
theorem poss_take (x : List Int) (n a : Nat) (hn : n ≤ x.length) (ha : a + 3 ≤ n) : poss (x.take n) a (key3 (x.take n) a) = poss x a (key3 x a) := by
  have hl : (x.take n).length = n := by rw [List.length_take]; omega
  unfold poss
  congr 1
  apply List.filter_congr
  intro p hp
  have hpa := List.mem_range.1 hp
  rw [decide_eq_decide, hl]
  have := cand_take x n a p hn ha
  unfold Cand at this
  rw [hl] at this
  constructor
  · rintro ⟨h1, h2⟩; exact (this.1 ⟨hpa, h1, h2⟩).2
  · rintro ⟨h1, h2⟩; exact (this.2 ⟨hpa, h1, h2⟩).2
theorem bestGo_take (x : List Int) (n a : Nat) (hn : n ≤ x.length) : ∀ (ps : List Int) (t : Int × Int), (∀ z, z ∈ ps → 0 ≤ z ∧ z < (a : Int)) → 0 ≤ t.2 → a + (bestGo x a ps t).2.toNat ≤ n → bestGo (x.take n) a ps t = bestGo x a ps t
  | [], t, _, _, _ => rfl
  | z :: ps, t, hz, h0, h => by
    rw [bestGo] at h ⊢
    rw [bestGo]
    have hz1 := hz z List.mem_cons_self
    by_cases c : (a : Int) - z ≤ 255
    · rw [if_pos c] at h ⊢
      rw [if_pos c]
      have hm := bestGo_mono x a ps (if ((lzRun x z.toNat a 200 0 : Nat) : Int) > t.2 then ((a : Int) - z, ((lzRun x z.toNat a 200 0 : Nat) : Int)) else t)
      have hr : ((lzRun x z.toNat a 200 0 : Nat) : Int) ≤ (if ((lzRun x z.toNat a 200 0 : Nat) : Int) > t.2 then ((a : Int) - z, ((lzRun x z.toNat a 200 0 : Nat) : Int)) else t).2 := by
        split
        · exact Int.le_refl _
        · omega
      have hrun := run_take x n z.toNat a (by omega) hn 200 0 (by omega)
      rw [hrun]
      refine bestGo_take x n a hn ps _ (fun y hy => hz y (List.mem_cons_of_mem _ hy)) ?_ h
      split
      · exact Int.natCast_nonneg _
      · exact h0
    · rw [if_neg c, if_neg c]
theorem best_take (x : List Int) (n a : Nat) (hn : n ≤ x.length) (h : a + max (bestAt x a).2.toNat 1 ≤ n) : bestAt (x.take n) a = bestAt x a := by
  have hl : (x.take n).length = n := by rw [List.length_take]; omega
  rcases bestAt_of x a with h0 | ⟨p, hc, h1, h2, h3⟩
  · rw [h0]
    rcases bestAt_of (x.take n) a with h4 | ⟨p, hc, h5, h6, h7⟩
    · exact h4
    · by_cases c : a + 3 ≤ n
      · have hc2 := (cand_take x n a p hn c).1 hc
        have hm := bestAt_max x a p (by omega) hc2 (by omega)
        have hr := cand_run x a p (by omega) hc2
        rw [h0] at hm
        exact absurd hm (by show ¬ _ ≤ (0 : Int); omega)
      · unfold bestAt
        rw [hl, if_neg c]
  · by_cases c : a + 3 ≤ x.length
    · have hr := cand_run x a p c hc
      have c2 : a + 3 ≤ n := by omega
      unfold bestAt at h ⊢
      rw [hl, if_pos c2]
      rw [if_pos c] at h ⊢
      rw [poss_take x n a hn c2]
      exact bestGo_take x n a hn _ _ (fun z hz => poss_mem x a _ z (List.mem_reverse.1 hz)) (Int.le_refl _) (by omega)
    · have : bestAt x a = (0, 0) := by unfold bestAt; rw [if_neg c]
      rw [this]
      unfold bestAt
      rw [hl, if_neg (by omega)]
theorem tok_take (x : List Int) (n a : Nat) (hn : n ≤ x.length) (h : a + max (bestAt x a).2.toNat 1 ≤ n) : tokAt (x.take n) a = tokAt x a := by
  unfold tokAt
  rw [best_take x n a hn h, rd_take x n a (by omega)]
theorem begins_l0 (x : List Int) (n : Nat) (hx : x.length ≤ 300) (hn : n ≤ x.length) (all part : List S46) : ∀ (f a i k : Nat), x.length ≤ a + f → a ≤ x.length → i ≤ a → all.drop i = parseGo x f a → part.drop i = parseGo (x.take n) f a → i ≤ all.length → i ≤ part.length → 2 * f + 10 ≤ k →
    packthreadkeep_LzBegins.l0 k (n : Int) all part (a : Int) (i : Int) = some true := by
  have hl : (x.take n).length = n := by rw [List.length_take]; omega
  intro f
  induction f with
  | zero =>
    intro a i k h1 h2 h3 h4 h5 h6 h7 h8
    obtain ⟨k, rfl⟩ : ∃ q, k = q + 2 := ⟨k - 2, by omega⟩
    rw [parseGo] at h5
    have hp : part.length ≤ i := List.drop_eq_nil_iff.1 h5
    rw [packthreadkeep_LzBegins.l0, if_neg (by omega), packthreadkeep_LzBegins.j2, if_neg (by decide), decide_eq_true (by omega)]
  | succ f ih =>
    intro a i k h1 h2 h3 h4 h5 h6 h7 h8
    obtain ⟨k, rfl⟩ : ∃ q, k = q + 2 := ⟨k - 2, by omega⟩
    by_cases c : a < n
    · rw [parse_tok x a (by omega)] at h4
      rw [parse_tok (x.take n) a (by omega)] at h5
      obtain ⟨e1, g1⟩ := rdT all i _ _ h4
      obtain ⟨e2, g2⟩ := rdT part i _ _ h5
      have hin := bestAt_in x a (by omega)
      have hf2 : (tokAt x a).f2 = (bestAt x a).2 := rfl
      rw [packthreadkeep_LzBegins.l0, if_pos (by omega), decide_eq_true (by omega), packthreadkeep_LzBegins.j2, if_pos rfl, if_pos (by omega), if_pos (by omega), if_pos (by omega), e1, e2]
      have hmx : mx (tokAt x a).f2 1 = ((max (bestAt x a).2.toNat 1 : Nat) : Int) := by rw [hf2]; unfold mx; split <;> omega
      rw [hmx, wrap64_id (x := (a : Int) + _) (by omega) (by omega), wrap64_id (x := (i : Int) + 1) (by omega) (by omega)]
      by_cases he : tokAt (x.take n) a = tokAt x a
      · rw [he, if_neg (by simp), show (a : Int) + ((max (bestAt x a).2.toNat 1 : Nat) : Int) = ((a + max (bestAt x a).2.toNat 1 : Nat) : Int) by omega, show (i : Int) + 1 = ((i + 1 : Nat) : Int) by omega]
        have hb : (bestAt (x.take n) a).2 = (bestAt x a).2 := congrArg S46.f2 he
        refine ih (a + max (bestAt x a).2.toNat 1) (i + 1) k (by omega) (by omega) (by omega) ?_ ?_ (by omega) (by omega) (by omega)
        · rw [← List.drop_drop, h4]; rfl
        · rw [← List.drop_drop, h5, ← hb]; rfl
      · have hgt : n < a + max (bestAt x a).2.toNat 1 := by
          rcases Nat.lt_or_ge n (a + max (bestAt x a).2.toNat 1) with h | h
          · exact h
          · exact absurd (tok_take x n a hn h) he
        rw [if_pos, decide_eq_true (by omega)]
        have hd : ∀ p q : S46, p ≠ q → (!(p.f0 == q.f0) || (!(p.f1 == q.f1) || (!(p.f2 == q.f2)))) = true := by
          intro p q hne
          obtain ⟨p0, p1, p2⟩ := p
          obtain ⟨q0, q1, q2⟩ := q
          by_cases d0 : p0 = q0
          · by_cases d1 : p1 = q1
            · by_cases d2 : p2 = q2
              · exact absurd (by rw [d0, d1, d2]) hne
              · simp [d2]
            · simp [d1]
          · simp [d0]
        exact hd _ _ he
    · rw [parseGo, if_neg (by omega)] at h5
      have hp : part.length ≤ i := List.drop_eq_nil_iff.1 h5
      rw [packthreadkeep_LzBegins.l0, if_neg (by omega), packthreadkeep_LzBegins.j2, if_neg (by decide), decide_eq_true (by omega)]
theorem LzBegins : packthreadkeep_LzBegins.Pure := by
  intro l0 a1 a2 _ _ _ _ _
  obtain ⟨k, hk⟩ : ∃ k, 3000000 ≤ k := ⟨3000000, Nat.le_refl _⟩
  refine ⟨k, ?_⟩
  have hp0 := Int.emod_nonneg a1 (show (20 : Int) ≠ 0 by omega)
  have hp1 := Int.emod_lt_of_pos a1 (show (0 : Int) < 20 by omega)
  obtain ⟨x, hx, hxl⟩ := few_eq k l0 (1 + a1 % 20) 300 300 rfl (by omega) (by omega) (by omega) (by omega)
  obtain ⟨n, hn⟩ : ∃ n : Nat, a2 % ((x.length : Int) + 1) = (n : Int) := ⟨(a2 % ((x.length : Int) + 1)).toNat, by have := Int.emod_nonneg a2 (show (x.length : Int) + 1 ≠ 0 by omega); omega⟩
  have hn2 : n ≤ x.length := by have := Int.emod_lt_of_pos a2 (show (0 : Int) < (x.length : Int) + 1 by omega); omega
  have hl : (x.take n).length = n := by rw [List.length_take]; omega
  have hfx : lz_Parse.f x = some (parseGo x x.length 0, 0) := by unfold lz_Parse.f; rw [if_neg (by omega)]
  have hfy : lz_Parse.f (x.take n) = some (parseGo (x.take n) n 0, 0) := by unfold lz_Parse.f; rw [if_neg (by omega), hl]
  unfold packthreadkeep_LzBegins.f
  rw [picked_eq _ _ (by decide) (by decide), Option.bind_some, wrap64_id (x := 1 + a1 % 20) (by omega) (by omega), hx, Option.bind_some, wrap64_id (x := (x.length : Int) + 1) (by omega) (by omega), picked_eq _ _ (by omega) (by omega), Option.bind_some, hn, if_pos (by rw [List.length_nil]; omega), List.nil_append, hfx, Option.bind_some, if_pos (by omega), if_pos (by omega), Int.toNat_natCast, Option.bind_some, if_pos (by rw [List.length_nil]; omega), List.nil_append, hfy, Option.bind_some]
  show (if (0 : Int) = 0 then (if (0 : Int) = 0 then ((packthreadkeep_lzSure.f k).bind fun t157 => (packthreadkeep_LzBegins.j0 k (n : Int) (parseGo x x.length 0) (parseGo (x.take n) n 0) (!t157))) else _) else _) = some true
  rw [if_pos rfl, if_pos rfl, lzSure_eq k (by omega), Option.bind_some]
  obtain ⟨k, rfl⟩ : ∃ q, k = q + 1 := ⟨k - 1, by omega⟩
  rw [packthreadkeep_LzBegins.j0, if_neg (by decide)]
  exact begins_l0 x n (by omega) hn2 _ _ x.length 0 0 k (by omega) (by omega) (by omega) (by rw [List.drop_zero]) (by rw [List.drop_zero]; exact parseGo_fuel _ _ _ _ (by omega) (by omega)) (by omega) (by omega) (by omega)

end Go.Proofs.Ytknpmpfcmgjpdaa.Pure
