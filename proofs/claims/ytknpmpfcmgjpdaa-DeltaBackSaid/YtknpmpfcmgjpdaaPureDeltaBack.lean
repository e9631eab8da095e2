/- Proved: for every input the law DeltaBack answers true: the pieces of two files, patched on the first, give the second again. Condition: none (every row of bytes, every number). -/
import Derived.Test.YtknpmpfcmgjpdaaPDeltaBackx5
namespace Go.Proofs.Ytknpmpfcmgjpdaa.Pure
open Go.RowKit Go.Proofs.Ytknpmpfcmgjpdaa.PDeltaBack Go.Proofs.YtknpmpfcmgjpdaaW.PrintWords Go.Proofs.YtknpmpfcmgjpdaaW.PrintLast
set_option linter.unusedVariables false

theorem wrap64_id {x : Int} (h0 : -9223372036854775808 ≤ x) (h1 : x ≤ 9223372036854775807) : wrap64 x = x := by unfold wrap64; omega

theorem picked_eq (a n : Int) (h0 : 0 < n) (h1 : n ≤ 1000000000000) : packthreadkeep_Picked.f a n = some (a % n) := by
  unfold packthreadkeep_Picked.f
  rw [if_neg (by omega)]
  have hm := Int.tmod_eq_emod (a := a) (b := n)
  have hlo := Int.emod_nonneg a (show n ≠ 0 by omega)
  have hhi := Int.emod_lt_of_pos a h0
  by_cases hc : 0 ≤ a ∨ n ∣ a
  · rw [if_pos hc] at hm
    have e : a.tmod n = a % n := by rw [hm]; simp
    rw [e, if_neg (by omega)]
  · rw [if_neg hc] at hm
    have e : a.tmod n = a % n - n := by rw [hm]; congr 1; omega
    rw [e, if_pos (by omega), wrap64_id (by omega) (by omega)]
    congr 1; omega

def Oct (l : List Int) : Prop := ∀ x ∈ l, 0 ≤ x ∧ x ≤ 255
theorem oct_of {l : List Int} (h : ∀ x ∈ l, (Lit.int .u8 x).wf = true) : Oct l := fun x hx => by
  have := h x hx
  simp [Lit.wf, IntKind.min, IntKind.max, IntKind.signed, IntKind.bits] at this
  omega
theorem Oct.take {l : List Int} (h : Oct l) (n : Nat) : Oct (l.take n) := fun x hx => h x (List.mem_of_mem_take hx)
theorem Oct.append {a b : List Int} (h : Oct a) (g : Oct b) : Oct (a ++ b) := fun x hx => by
  rcases List.mem_append.1 hx with h1 | h1
  · exact h x h1
  · exact g x h1
theorem Oct.set {l : List Int} (h : Oct l) (i : Nat) (v : Int) (h0 : 0 ≤ v) (h1 : v ≤ 255) : Oct (l.set i v) := fun x hx => by
  rcases List.mem_or_eq_of_mem_set hx with h2 | h2
  · exact h x h2
  · subst h2; exact ⟨h0, h1⟩
theorem Oct.getD {l : List Int} (h : Oct l) (i : Nat) : 0 ≤ l.getD i 0 ∧ l.getD i 0 ≤ 255 := by
  by_cases c : i < l.length
  · rw [List.getD_eq_getElem?_getD, List.getElem?_eq_getElem c]; exact h _ (List.getElem_mem c)
  · rw [List.getD_eq_getElem?_getD, List.getElem?_eq_none (by omega)]; simp
theorem octets_eq (l : List Int) (n : Int) (m : Nat) (hm : n = (m : Int)) (hn : m ≤ 1000000) : packthreadkeep_Octets.f l n = some (l.take m) := by
  subst hm
  have e : (mn (l.length : Int) m).toNat = min l.length m := by unfold mn; split <;> omega
  have e0 : 0 ≤ mn (l.length : Int) m := by unfold mn; split <;> omega
  have e1 : mn (l.length : Int) m ≤ l.length := by unfold mn; split <;> omega
  unfold packthreadkeep_Octets.f
  rw [if_pos e0, if_pos e1, e, if_pos (by rw [List.length_take, List.length_nil]; omega), List.nil_append]
  congr 1
  by_cases c : l.length ≤ m
  · rw [Nat.min_eq_left c, List.take_length, List.take_of_length_le c]
  · rw [Nat.min_eq_right (by omega)]

theorem sameb_l0 (l : List Int) (hL : l.length ≤ 100000) : ∀ (m i k : Nat), i + m = l.length → m < k → packthreadkeep_sameBytes.l0 k l l (i : Int) = some true := by
  intro m
  induction m with
  | zero =>
    intro i k hi hk
    obtain ⟨k, rfl⟩ : ∃ q, k = q + 1 := ⟨k - 1, by omega⟩
    rw [packthreadkeep_sameBytes.l0, if_neg (by omega)]
  | succ m ih =>
    intro i k hi hk
    obtain ⟨k, rfl⟩ : ∃ q, k = q + 1 := ⟨k - 1, by omega⟩
    have hw1 : wrap64 ((i : Int) + 1) = ((i + 1 : Nat) : Int) := by rw [wrap64_id (by omega) (by omega)]; omega
    rw [packthreadkeep_sameBytes.l0, if_pos (by omega), if_pos (by omega), if_pos (by omega), if_pos rfl, hw1]
    exact ih (i + 1) k (by omega) (by omega)
theorem sameb_eq (k : Nat) (l : List Int) (hL : l.length ≤ 100000) (hk : l.length < k) : packthreadkeep_sameBytes.f k l l = some true := by
  unfold packthreadkeep_sameBytes.f
  rw [if_pos rfl]
  exact sameb_l0 l hL l.length 0 k (by omega) (by omega)

/-- what a piece says -/
def says (old : List Int) (p : S31) : List Int := (old.take (p.f1 + p.f2).toNat).drop p.f1.toNat ++ p.f3
def flat (old : List Int) (ps : List S31) : List Int := ps.flatMap (says old)
def Good (old : List Int) (p : S31) : Prop := (p.f0 = true ∧ p.f3 = [] ∧ 0 ≤ p.f1 ∧ 0 < p.f2 ∧ p.f1 + p.f2 ≤ old.length) ∨ (p.f0 = false ∧ p.f1 = 0 ∧ p.f2 = 0 ∧ p.f3 ≠ [])
theorem flat_snoc (old : List Int) (ps : List S31) (p : S31) : flat old (ps ++ [p]) = flat old ps ++ says old p := by simp [flat]
theorem alikeN_take : ∀ (a b : List Int), a.take (alikeN a b) = b.take (alikeN a b)
  | [], b => by simp [alikeN]
  | x :: xs, [] => by simp [alikeN]
  | x :: xs, y :: ys => by
    rw [alikeN]
    split
    · rename_i h; subst h; rw [List.take_succ_cons, List.take_succ_cons, alikeN_take xs ys]
    · rfl
theorem rd_snoc (qs : List S31) (p : S31) : rd_T31 (qs ++ [p]) (((qs ++ [p]).length : Int) - 1) = p := by
  unfold rd_T31
  rw [show (((qs ++ [p]).length : Int) - 1).toNat = qs.length by rw [List.length_append]; simp, List.getD_eq_getElem?_getD, List.getElem?_append_right (Nat.le_refl _)]
  simp
theorem tellOn_snoc (qs : List S31) (p : S31) (x : Int) : tellOn (qs ++ [p]) x = qs ++ [{ p with f3 := p.f3 ++ [x] }] := by
  unfold tellOn
  rw [rd_snoc, show (qs ++ [p]).length - 1 = qs.length by rw [List.length_append]; simp, List.set_append_right _ _ (Nat.le_refl _)]
  simp
theorem snoc_of (ps : List S31) (h : ps ≠ []) : ∃ qs p, ps = qs ++ [p] := ⟨ps.dropLast, ps.getLast h, (List.dropLast_concat_getLast h).symm⟩
theorem tell_cases (ps : List S31) (x : Int) : tellByte ps x = ps ++ [⟨false, 0, 0, [x]⟩] ∨ ∃ qs p, ps = qs ++ [p] ∧ p.f0 = false ∧ tellByte ps x = qs ++ [{ p with f3 := p.f3 ++ [x] }] := by
  unfold tellByte
  by_cases c : needNew ps = true
  · rw [if_pos c, tellOn_snoc]
    exact .inl rfl
  · rw [if_neg c]
    have hne : ps ≠ [] := by
      intro e
      subst e
      exact c rfl
    obtain ⟨qs, p, rfl⟩ := snoc_of ps hne
    refine .inr ⟨qs, p, rfl, ?_, tellOn_snoc _ _ _⟩
    unfold needNew at c
    rw [rd_snoc] at c
    cases hp : p.f0 with
    | false => rfl
    | true => rw [hp] at c; simp at c
theorem says_told (old : List Int) (p : S31) (h1 : p.f1 = 0) (h2 : p.f2 = 0) : says old p = p.f3 := by
  unfold says
  rw [h1, h2]
  simp
theorem dGo_good (old now : List Int) (a : Nat) : ∀ (zs : List Int) (t : Int × Int), (∀ z, z ∈ zs → 0 ≤ z ∧ z < ((old.length - 7 : Nat) : Int)) → (0 < t.2 → 0 ≤ t.1 ∧ t.1 + t.2 ≤ old.length ∧ (old.drop t.1.toNat).take t.2.toNat = (now.drop a).take t.2.toNat) →
    0 < (dGo old now a zs t).2 → 0 ≤ (dGo old now a zs t).1 ∧ (dGo old now a zs t).1 + (dGo old now a zs t).2 ≤ old.length ∧ (old.drop (dGo old now a zs t).1.toNat).take (dGo old now a zs t).2.toNat = (now.drop a).take (dGo old now a zs t).2.toNat
  | [], t, _, h => h
  | z :: zs, t, hz, h => by
    rw [dGo]
    refine dGo_good old now a zs _ (fun y hy => hz y (List.mem_cons_of_mem _ hy)) ?_
    split
    · intro _
      have h0 := hz z (List.mem_cons_self ..)
      have h1 := (alikeN_le (old.drop z.toNat) (now.drop a)).1
      rw [List.length_drop] at h1
      refine ⟨h0.1, ?_, ?_⟩
      · show z + ((alikeN (old.drop z.toNat) (now.drop a) : Nat) : Int) ≤ old.length
        omega
      · show (old.drop z.toNat).take (((alikeN (old.drop z.toNat) (now.drop a) : Nat) : Int)).toNat = _
        rw [Int.toNat_natCast]
        exact alikeN_take _ _
    · exact h
theorem dBest_good (old now : List Int) (a : Nat) (h : 0 < (dBest old now a).2) : 0 ≤ (dBest old now a).1 ∧ (dBest old now a).1 + (dBest old now a).2 ≤ old.length ∧ (old.drop (dBest old now a).1.toNat).take (dBest old now a).2.toNat = (now.drop a).take (dBest old now a).2.toNat := by
  unfold dBest at h ⊢
  split at h
  · rename_i c
    rw [if_pos c]
    exact dGo_good old now a _ _ (fun z hz => sposs_mem old _ _ z hz) (fun h => absurd h (by simp)) h
  · exact absurd h (by simp)
theorem deltaGo_flat (old now : List Int) : ∀ (f a : Nat) (ps : List S31), now.length ≤ a + f → a ≤ now.length → (∀ p, p ∈ ps → Good old p) → flat old ps = now.take a → (∀ p, p ∈ deltaGo old now f a ps → Good old p) ∧ flat old (deltaGo old now f a ps) = now := by
  intro f
  induction f with
  | zero =>
    intro a ps h1 h2 h3 h4
    rw [deltaGo]
    exact ⟨h3, by rw [h4, List.take_of_length_le (by omega)]⟩
  | succ f ih =>
    intro a ps h1 h2 h3 h4
    rw [deltaGo]
    by_cases c : a < now.length
    · rw [if_pos c]
      by_cases d : (dBest old now a).2 > 0
      · rw [if_pos d]
        obtain ⟨g1, g2, g3⟩ := dBest_good old now a d
        obtain ⟨_, g4⟩ := dBest_in old now a h2
        refine ih _ _ (by omega) g4 ?_ ?_
        · intro p hp
          rcases List.mem_append.1 hp with hp | hp
          · exact h3 p hp
          · simp at hp
            subst hp
            exact .inl ⟨rfl, rfl, g1, d, g2⟩
        · rw [flat_snoc, h4, List.take_add]
          congr 1
          rw [← g3]
          unfold says
          show (old.take ((dBest old now a).1 + (dBest old now a).2).toNat).drop (dBest old now a).1.toNat ++ [] = _
          rw [List.append_nil, List.drop_take]
          congr 1
          omega
      · rw [if_neg d]
        have hx : now.take (a + 1) = now.take a ++ [rd now (a : Int)] := by
          rw [List.take_add, List.drop_eq_getElem_cons c]
          congr 1
          unfold rd
          rw [Int.toNat_natCast, List.getD_eq_getElem?_getD, List.getElem?_eq_getElem c]
          rfl
        rcases tell_cases ps (rd now (a : Int)) with e | ⟨qs, p, rfl, hp0, e⟩
        · rw [e]
          refine ih _ _ (by omega) (by omega) ?_ ?_
          · intro p hp
            rcases List.mem_append.1 hp with hp | hp
            · exact h3 p hp
            · simp at hp
              subst hp
              exact .inr ⟨rfl, rfl, rfl, by simp⟩
          · rw [flat_snoc, h4, hx, says_told _ _ rfl rfl]
        · rw [e]
          have hg := h3 p (by simp)
          rcases hg with ⟨g, _⟩ | ⟨_, g1, g2, g3⟩
          · rw [hp0] at g; exact absurd g (by simp)
          refine ih _ _ (by omega) (by omega) ?_ ?_
          · intro q hq
            rcases List.mem_append.1 hq with hq | hq
            · exact h3 q (List.mem_append.2 (.inl hq))
            · simp at hq
              subst hq
              exact .inr ⟨hp0, g1, g2, by simp⟩
          · rw [flat_snoc, says_told _ _ g1 g2] at h4
            rw [flat_snoc, says_told old { p with f3 := p.f3 ++ [rd now (a : Int)] } g1 g2, hx, ← h4, List.append_assoc]
    · rw [if_neg c]
      exact ⟨h3, by rw [h4, List.take_of_length_le (by omega)]⟩
theorem delta_flat (old now : List Int) : (∀ p, p ∈ deltaGo old now now.length 0 [] → Good old p) ∧ flat old (deltaGo old now now.length 0 []) = now := deltaGo_flat old now now.length 0 [] (by omega) (by omega) (fun p hp => by simp at hp) (by simp [flat])
theorem says_pos (old : List Int) (p : S31) (h : Good old p) : 0 < (says old p).length := by
  rcases h with ⟨_, h1, h2, h3, h4⟩ | ⟨_, h1, h2, h3⟩
  · unfold says
    rw [h1, List.append_nil, List.length_drop, List.length_take]
    omega
  · rw [says_told _ _ h1 h2]
    exact List.length_pos_iff.2 h3
theorem flat_len (old : List Int) : ∀ (ps : List S31), (∀ p, p ∈ ps → Good old p) → ps.length ≤ (flat old ps).length
  | [], _ => by simp [flat]
  | p :: ps, h => by
    have h1 := says_pos old p (h p (List.mem_cons_self ..))
    have h2 := flat_len old ps (fun q hq => h q (List.mem_cons_of_mem _ hq))
    have e : flat old (p :: ps) = says old p ++ flat old ps := by simp [flat]
    rw [e, List.length_append, List.length_cons]
    omega

theorem rd_T31_drop (ps : List S31) (i : Nat) (p : S31) (r : List S31) (h : ps.drop i = p :: r) : rd_T31 ps (i : Int) = p ∧ i < ps.length ∧ ps.drop (i + 1) = r := by
  have h1 : ps[i]? = some p := by
    have := congrArg List.head? h
    rw [List.head?_drop] at this
    exact this
  obtain ⟨hl, he⟩ := List.getElem?_eq_some_iff.1 h1
  refine ⟨by unfold rd_T31; rw [Int.toNat_natCast, List.getD_eq_getElem?_getD, h1]; rfl, hl, ?_⟩
  have := congrArg List.tail h
  rw [List.tail_drop] at this
  exact this
theorem patch_l0 (old : List Int) (ps : List S31) (ho : old.length ≤ 2048) : ∀ (r : List S31) (i k : Nat) (x : List Int), ps.drop i = r → i ≤ ps.length → ps.length ≤ 2048 → (∀ p, p ∈ r → Good old p) → (x ++ flat old r).length ≤ 2048 → 4 * r.length < k → delta_Patch.l0 k old x ps (ps.length : Int) (i : Int) = some (x ++ flat old r, 0) := by
  intro r
  induction r with
  | nil =>
    intro i k x h1 h2 h3 h4 h5 h6
    obtain ⟨k, rfl⟩ : ∃ q, k = q + 1 := ⟨k - 1, by omega⟩
    have hl : ps.length ≤ i := List.drop_eq_nil_iff.1 h1
    have e : flat old [] = [] := rfl
    rw [e, List.append_nil] at h5
    rw [delta_Patch.l0, if_neg (by omega), e, List.append_nil]
    unfold slices_Clone_byte_byte.f
    rw [Option.bind_some, if_pos (by rw [List.length_nil]; omega), List.nil_append, Option.bind_some]
  | cons p r ih =>
    intro i k x h1 h2 h3 h4 h5 h6
    rw [List.length_cons] at h6
    obtain ⟨k, rfl⟩ : ∃ q, k = q + 4 := ⟨k - 4, by omega⟩
    obtain ⟨g1, g2, g3⟩ := rd_T31_drop ps i p r h1
    have e : flat old (p :: r) = says old p ++ flat old r := by simp [flat]
    rw [e, ← List.append_assoc] at h5
    have hs : (x ++ says old p).length ≤ 2048 := by rw [List.length_append] at h5; omega
    have hih := ih (i + 1) k (x ++ says old p) g3 (by omega) h3 (fun q hq => h4 q (List.mem_cons_of_mem _ hq)) h5 (by omega)
    rw [e, ← List.append_assoc, ← hih]
    have hr1 : 0 ≤ p.f1 ∧ 0 ≤ p.f2 ∧ p.f1 + p.f2 ≤ old.length := by
      rcases h4 p (List.mem_cons_self ..) with ⟨_, _, a, b, c⟩ | ⟨_, a, b, _⟩ <;> omega
    have hj4 : delta_Patch.j4 (k + 1) old x ps (ps.length : Int) (i : Int) false p.f0 p.f1 p.f2 p.f3 = delta_Patch.l0 k old (x ++ says old p) ps (ps.length : Int) ((i + 1 : Nat) : Int) := by
      have hsl : (x ++ (old.take (p.f1 + p.f2).toNat).drop p.f1.toNat).length + p.f3.length ≤ 2048 := by
        have := hs
        unfold says at this
        rw [← List.append_assoc, List.length_append] at this
        exact this
      rw [delta_Patch.j4, if_neg (by decide), if_pos hr1.1, wrap64_id (x := p.f1 + p.f2) (by omega) (by omega), if_pos (by omega), if_pos (by omega), if_pos (by rw [List.length_append] at hsl; omega), Option.bind_some, if_pos (by omega), Option.bind_some, if_neg (by rw [List.length_append]; omega), wrap64_id (x := (i : Int) + 1) (by omega) (by omega), List.append_assoc]
      rfl
    have hj3 : delta_Patch.j3 (k + 1 + 1) old x ps (ps.length : Int) (i : Int) false p.f0 p.f1 p.f2 p.f3 = delta_Patch.j4 (k + 1) old x ps (ps.length : Int) (i : Int) false p.f0 p.f1 p.f2 p.f3 := by
      rw [delta_Patch.j3, if_neg (by decide), if_neg (by omega), if_neg (by omega), if_neg (by omega), wrap64_id (by omega) (by omega), decide_eq_false (by omega)]
    have hj2 : delta_Patch.j2 (k + 1 + 1 + 1) old x ps (ps.length : Int) (i : Int) false p.f0 p.f1 p.f2 p.f3 = delta_Patch.j3 (k + 1 + 1) old x ps (ps.length : Int) (i : Int) false p.f0 p.f1 p.f2 p.f3 := by
      rw [delta_Patch.j2, if_neg (by decide)]
      rcases h4 p (List.mem_cons_self ..) with ⟨a, _⟩ | ⟨a, b, c, _⟩
      · rw [if_pos a]
      · rw [if_neg (by rw [a]; decide), if_pos b, c]
        rfl
    rw [delta_Patch.l0, if_pos (by omega), if_pos (by omega), if_pos (by omega), g1, ← hj4, ← hj3, ← hj2]
    rcases h4 p (List.mem_cons_self ..) with ⟨a, b, _⟩ | ⟨a, _⟩
    · rw [if_pos a, b]
      rfl
    · rw [if_neg (by rw [a]; decide)]
theorem patch_eq (old : List Int) (ps : List S31) (ho : old.length ≤ 2048) (hg : ∀ p, p ∈ ps → Good old p) (hl : (flat old ps).length ≤ 2048) (k : Nat) (hk : 9000 ≤ k) : delta_Patch.f k old ps = some (flat old ps, 0) := by
  have h1 := flat_len old ps hg
  unfold delta_Patch.f
  obtain ⟨k, rfl⟩ : ∃ q, k = q + 1 := ⟨k - 1, by omega⟩
  rw [if_neg (by omega), decide_eq_false (by omega), delta_Patch.j0, if_neg (by decide)]
  exact patch_l0 old ps ho ps 0 k [] (by simp) (by omega) (by omega) hg (by simpa using hl) (by omega)

theorem mixed_l0 (x : List Int) (hx : x.length ≤ 300) (m : List Int) (hm : m.length ≤ 140737488351232) : ∀ (f i k : Nat) (y : List Int), i + f = 12 → 4 * f + 4 ≤ k → y.length ≤ 61 * i → ∃ z, packthreadkeep_Mixed.l0 k x m y (i : Int) = some z ∧ z.length ≤ 732 := by
  intro f
  induction f with
  | zero =>
    intro i k y h1 h2 h3
    obtain ⟨k, rfl⟩ : ∃ q, k = q + 2 := ⟨k - 2, by omega⟩
    refine ⟨y, ?_, by omega⟩
    have hj : packthreadkeep_Mixed.j1 (k + 1) x m y (i : Int) false = some y := by rw [packthreadkeep_Mixed.j1, if_neg (by decide)]
    rw [packthreadkeep_Mixed.l0, decide_eq_false (by omega), hj]
    split <;> rfl
  | succ f ih =>
    intro i k y h1 h2 h3
    obtain ⟨k, rfl⟩ : ∃ q, k = q + 3 := ⟨k - 3, by omega⟩
    rw [packthreadkeep_Mixed.l0]
    by_cases c : (i : Int) < (m.length : Int)
    · rw [if_pos c, decide_eq_true (show (i : Int) < 12 by omega), packthreadkeep_Mixed.j1, if_pos rfl, if_pos (by omega), if_pos c, picked_eq _ _ (by decide) (by decide), Option.bind_some]
      have hA : ∃ z, packthreadkeep_Mixed.j2 (k + 1) x m y (i : Int) true = some z ∧ z.length ≤ 732 := by
        rw [packthreadkeep_Mixed.j2, if_pos rfl, if_pos (by omega), if_pos c, Option.bind_some, if_pos (by simp; omega), wrap64_id (by omega) (by omega)]
        exact ih (i + 1) k _ (by omega) (by omega) (by simp; omega)
      split
      · exact hA
      · by_cases d : x.length = 0
        · rw [show ((x.length : Int) == 0) = true by simp [d]]
          exact hA
        · rw [show ((x.length : Int) == 0) = false by simp; intro e; simp [e] at d]
          rw [packthreadkeep_Mixed.j2, if_neg (by decide), if_pos (by omega), if_pos c, picked_eq _ _ (by omega) (by omega), Option.bind_some, picked_eq _ _ (by decide) (by decide), Option.bind_some]
          obtain ⟨u, hu⟩ : ∃ u, wrap64 (Int.tdiv (rd m (i : Int)) 3) % (x.length : Int) = u := ⟨_, rfl⟩
          have hu0 : 0 ≤ u := by rw [← hu]; exact Int.emod_nonneg _ (by omega)
          have hu1 : u < x.length := by rw [← hu]; exact Int.emod_lt_of_pos _ (by omega)
          obtain ⟨v, hv⟩ : ∃ v, wrap64 (Int.tdiv (rd m (i : Int)) 999) % 60 = v := ⟨_, rfl⟩
          have hv0 : 0 ≤ v := by rw [← hv]; exact Int.emod_nonneg _ (by omega)
          have hv1 : v < 60 := by rw [← hv]; exact Int.emod_lt_of_pos _ (by omega)
          rw [hu, hv, wrap64_id (x := u + 1) (by omega) (by omega), wrap64_id (x := u + 1 + v) (by omega) (by omega)]
          have hn : mn (x.length : Int) (u + 1 + v) ≤ x.length ∧ mn (x.length : Int) (u + 1 + v) ≤ u + 1 + v ∧ u ≤ mn (x.length : Int) (u + 1 + v) := by unfold mn; split <;> omega
          obtain ⟨e, he⟩ : ∃ e, mn (x.length : Int) (u + 1 + v) = e := ⟨_, rfl⟩
          rw [he] at hn ⊢
          have hl : ((x.take e.toNat).drop u.toNat).length ≤ 60 := by rw [List.length_drop, List.length_take]; omega
          rw [if_pos hu0, if_pos hn.2.2, if_pos hn.1, if_pos (by omega), wrap64_id (x := (i : Int) + 1) (by omega) (by omega)]
          exact ih (i + 1) k _ (by omega) (by omega) (by rw [List.length_append]; omega)
    · rw [if_neg c, packthreadkeep_Mixed.j1, if_neg (by decide)]
      exact ⟨y, rfl, by omega⟩
theorem mixed_eq (x : List Int) (hx : x.length ≤ 300) (m : List Int) (hm : m.length ≤ 140737488351232) (k : Nat) (hk : 100 ≤ k) : ∃ z, packthreadkeep_Mixed.f k x m = some z ∧ z.length ≤ 732 := by
  unfold packthreadkeep_Mixed.f
  exact mixed_l0 x hx m hm 12 0 k [] (by omega) (by omega) (by simp)

theorem DeltaBack : packthreadkeep_DeltaBack.Pure := by
  intro l0 l1 l2 _ _ _ hm1 hm1' _ _ _ _
  obtain ⟨k, hk⟩ : ∃ k, 2000000 ≤ k := ⟨2000000, Nat.le_refl _⟩
  refine ⟨k, ?_⟩
  have e0 : (l0.take 300).length ≤ 300 := by rw [List.length_take]; omega
  have e2 : (l2.take 60).length ≤ 60 := by rw [List.length_take]; omega
  obtain ⟨z, hz, hzl⟩ := mixed_eq (l0.take 300) e0 l1 (by omega) k (by omega)
  unfold packthreadkeep_DeltaBack.f
  rw [octets_eq l0 300 300 rfl (by omega), Option.bind_some, hz, Option.bind_some, octets_eq l2 60 60 rfl (by omega), Option.bind_some, if_pos (by omega), Option.bind_some, if_pos (by rw [List.length_nil]; omega), if_pos (by rw [List.length_nil, List.length_append]; omega), List.nil_append, List.nil_append]
  obtain ⟨old, ho⟩ : ∃ o, l0.take 300 = o := ⟨_, rfl⟩
  obtain ⟨now, hn⟩ : ∃ o, z ++ l2.take 60 = o := ⟨_, rfl⟩
  have hnl : now.length ≤ 800 := by rw [← hn, List.length_append]; omega
  rw [ho] at e0 ⊢
  rw [hn]
  obtain ⟨f1, f2⟩ := delta_flat old now
  have f3 := flat_len old _ f1
  rw [f2] at f3
  have hd : delta_Delta.f old now = some (deltaGo old now now.length 0 [], 0) := by unfold delta_Delta.f; rw [if_neg (by omega)]
  have hp := patch_eq old _ (by omega) f1 (by rw [f2]; omega) k (by omega)
  rw [f2] at hp
  rw [hd, Option.bind_some]
  show ((delta_Patch.f k old (deltaGo old now now.length 0 [])).bind fun bt167 => _) = _
  rw [hp, Option.bind_some, if_pos rfl, if_pos rfl, sameb_eq k now (by omega) (by omega), Option.bind_some, if_pos]
  show (decide ((((deltaGo old now now.length 0 []).length : Nat) : Int) > 0) == decide ((now.length : Int) > 0)) = true
  by_cases c : now.length = 0
  · rw [decide_eq_false (by omega), decide_eq_false (by omega)]; rfl
  · have : (deltaGo old now now.length 0 []).length ≠ 0 := by
      intro e
      have e1 := List.eq_nil_of_length_eq_zero e
      rw [e1] at f2
      rw [← f2] at c
      exact c rfl
    rw [decide_eq_true (by omega), decide_eq_true (by omega)]; rfl

end Go.Proofs.Ytknpmpfcmgjpdaa.Pure
