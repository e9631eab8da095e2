/- Proved: for every input the law DeltaSmall answers true: a file against itself is one copy, what was put between costs itself and no more than fourteen bytes, no copy is shorter than eight. Condition: none (every number, every row of bytes). -/
import Derived.Test.YtknpmpfcmgjpdaaPDeltaSmallx3
namespace Go.Proofs.Ytknpmpfcmgjpdaa.Pure
open Go.RowKit Go.Proofs.Ytknpmpfcmgjpdaa.PDeltaSmall Go.Proofs.YtknpmpfcmgjpdaaW.PrintWords Go.Proofs.YtknpmpfcmgjpdaaW.PrintLast
set_option linter.unusedVariables false

theorem wrap64_id {x : Int} (h0 : -9223372036854775808 ≤ x) (h1 : x ≤ 9223372036854775807) : wrap64 x = x := by unfold wrap64; omega

theorem picked_eq (a n : Int) (h0 : 0 < n) (h1 : n ≤ 1000000000000) : packthreadkeep_Picked.f a n = some (a % n) := by
  unfold packthreadkeep_Picked.f
  rw [if_neg (by omega)]
  have hm := Int.tmod_eq_emod (a := a) (b := n)
  have hlo := Int.emod_nonneg a (show n ≠ 0 by omega)
  have hhi := Int.emod_lt_of_pos a h0
  by_cases hc : 0 ≤ a ∨ n ∣ a
  · rw [if_pos hc] at hm
    have e : a.tmod n = a % n := by rw [hm]; simp
    rw [e, if_neg (by omega)]
  · rw [if_neg hc] at hm
    have e : a.tmod n = a % n - n := by rw [hm]; congr 1; omega
    rw [e, if_pos (by omega), wrap64_id (by omega) (by omega)]
    congr 1; omega

def Oct (l : List Int) : Prop := ∀ x ∈ l, 0 ≤ x ∧ x ≤ 255
theorem oct_of {l : List Int} (h : ∀ x ∈ l, (Lit.int .u8 x).wf = true) : Oct l := fun x hx => by
  have := h x hx
  simp [Lit.wf, IntKind.min, IntKind.max, IntKind.signed, IntKind.bits] at this
  omega
theorem Oct.take {l : List Int} (h : Oct l) (n : Nat) : Oct (l.take n) := fun x hx => h x (List.mem_of_mem_take hx)
theorem Oct.append {a b : List Int} (h : Oct a) (g : Oct b) : Oct (a ++ b) := fun x hx => by
  rcases List.mem_append.1 hx with h1 | h1
  · exact h x h1
  · exact g x h1
theorem Oct.set {l : List Int} (h : Oct l) (i : Nat) (v : Int) (h0 : 0 ≤ v) (h1 : v ≤ 255) : Oct (l.set i v) := fun x hx => by
  rcases List.mem_or_eq_of_mem_set hx with h2 | h2
  · exact h x h2
  · subst h2; exact ⟨h0, h1⟩
theorem Oct.getD {l : List Int} (h : Oct l) (i : Nat) : 0 ≤ l.getD i 0 ∧ l.getD i 0 ≤ 255 := by
  by_cases c : i < l.length
  · rw [List.getD_eq_getElem?_getD, List.getElem?_eq_getElem c]; exact h _ (List.getElem_mem c)
  · rw [List.getD_eq_getElem?_getD, List.getElem?_eq_none (by omega)]; simp
theorem octets_eq (l : List Int) (n : Int) (m : Nat) (hm : n = (m : Int)) (hn : m ≤ 1000000) : packthreadkeep_Octets.f l n = some (l.take m) := by
  subst hm
  have e : (mn (l.length : Int) m).toNat = min l.length m := by unfold mn; split <;> omega
  have e0 : 0 ≤ mn (l.length : Int) m := by unfold mn; split <;> omega
  have e1 : mn (l.length : Int) m ≤ l.length := by unfold mn; split <;> omega
  unfold packthreadkeep_Octets.f
  rw [if_pos e0, if_pos e1, e, if_pos (by rw [List.length_take, List.length_nil]; omega), List.nil_append]
  congr 1
  by_cases c : l.length ≤ m
  · rw [Nat.min_eq_left c, List.take_length, List.take_of_length_le c]
  · rw [Nat.min_eq_right (by omega)]

theorem stream_l0 (c : Int) (n : Nat) (hn : n ≤ 100000) : ∀ (m i k : Nat) (x : List Int), i + m = n → m < k → x.length = i → Oct x → ∃ y, packthreadkeep_Stream.l0 k c (n : Int) x (i : Int) = some y ∧ y.length = n ∧ Oct y := by
  intro m
  induction m with
  | zero =>
    intro i k x h1 h2 h3 h4
    obtain ⟨k, rfl⟩ : ∃ q, k = q + 1 := ⟨k - 1, by omega⟩
    exact ⟨x, by rw [packthreadkeep_Stream.l0, if_neg (by omega)], by omega, h4⟩
  | succ m ih =>
    intro i k x h1 h2 h3 h4
    obtain ⟨k, rfl⟩ : ∃ q, k = q + 1 := ⟨k - 1, by omega⟩
    rw [packthreadkeep_Stream.l0, if_pos (by omega), picked_eq _ _ (by decide) (by decide), Option.bind_some, if_pos (by omega), wrap64_id (x := (i : Int) + 1) (by omega) (by omega), show (i : Int) + 1 = ((i + 1 : Nat) : Int) by omega]
    refine ih (i + 1) k _ (by omega) (by omega) (by rw [List.length_append]; simp; omega) ?_
    refine h4.append ?_
    intro y hy
    rw [List.mem_singleton] at hy
    rw [hy]
    omega
theorem stream_eq (c : Int) (n : Nat) (hn : n ≤ 100000) (k : Nat) (hk : n < k) : ∃ y, packthreadkeep_Stream.f k c (n : Int) = some y ∧ y.length = n ∧ Oct y := by
  unfold packthreadkeep_Stream.f
  exact stream_l0 c n hn n 0 k [] (by omega) (by omega) rfl (fun x hx => by simp at hx)

/-- what a piece says -/
def says (old : List Int) (p : S31) : List Int := (old.take (p.f1 + p.f2).toNat).drop p.f1.toNat ++ p.f3
def flat (old : List Int) (ps : List S31) : List Int := ps.flatMap (says old)
def Good (old : List Int) (p : S31) : Prop := (p.f0 = true ∧ p.f3 = [] ∧ 0 ≤ p.f1 ∧ 0 < p.f2 ∧ p.f1 + p.f2 ≤ old.length) ∨ (p.f0 = false ∧ p.f1 = 0 ∧ p.f2 = 0 ∧ p.f3 ≠ [])
theorem flat_snoc (old : List Int) (ps : List S31) (p : S31) : flat old (ps ++ [p]) = flat old ps ++ says old p := by simp [flat]
theorem alikeN_take : ∀ (a b : List Int), a.take (alikeN a b) = b.take (alikeN a b)
  | [], b => by simp [alikeN]
  | x :: xs, [] => by simp [alikeN]
  | x :: xs, y :: ys => by
    rw [alikeN]
    split
    · rename_i h; subst h; rw [List.take_succ_cons, List.take_succ_cons, alikeN_take xs ys]
    · rfl
theorem rd_snoc (qs : List S31) (p : S31) : rd_T31 (qs ++ [p]) (((qs ++ [p]).length : Int) - 1) = p := by
  unfold rd_T31
  rw [show (((qs ++ [p]).length : Int) - 1).toNat = qs.length by rw [List.length_append]; simp, List.getD_eq_getElem?_getD, List.getElem?_append_right (Nat.le_refl _)]
  simp
theorem tellOn_snoc (qs : List S31) (p : S31) (x : Int) : tellOn (qs ++ [p]) x = qs ++ [{ p with f3 := p.f3 ++ [x] }] := by
  unfold tellOn
  rw [rd_snoc, show (qs ++ [p]).length - 1 = qs.length by rw [List.length_append]; simp, List.set_append_right _ _ (Nat.le_refl _)]
  simp
theorem snoc_of (ps : List S31) (h : ps ≠ []) : ∃ qs p, ps = qs ++ [p] := ⟨ps.dropLast, ps.getLast h, (List.dropLast_concat_getLast h).symm⟩
theorem tell_cases (ps : List S31) (x : Int) : tellByte ps x = ps ++ [⟨false, 0, 0, [x]⟩] ∨ ∃ qs p, ps = qs ++ [p] ∧ p.f0 = false ∧ tellByte ps x = qs ++ [{ p with f3 := p.f3 ++ [x] }] := by
  unfold tellByte
  by_cases c : needNew ps = true
  · rw [if_pos c, tellOn_snoc]
    exact .inl rfl
  · rw [if_neg c]
    have hne : ps ≠ [] := by
      intro e
      subst e
      exact c rfl
    obtain ⟨qs, p, rfl⟩ := snoc_of ps hne
    refine .inr ⟨qs, p, rfl, ?_, tellOn_snoc _ _ _⟩
    unfold needNew at c
    rw [rd_snoc] at c
    cases hp : p.f0 with
    | false => rfl
    | true => rw [hp] at c; simp at c
theorem says_told (old : List Int) (p : S31) (h1 : p.f1 = 0) (h2 : p.f2 = 0) : says old p = p.f3 := by
  unfold says
  rw [h1, h2]
  simp
theorem dGo_good (old now : List Int) (a : Nat) : ∀ (zs : List Int) (t : Int × Int), (∀ z, z ∈ zs → 0 ≤ z ∧ z < ((old.length - 7 : Nat) : Int)) → (0 < t.2 → 0 ≤ t.1 ∧ t.1 + t.2 ≤ old.length ∧ (old.drop t.1.toNat).take t.2.toNat = (now.drop a).take t.2.toNat) →
    0 < (dGo old now a zs t).2 → 0 ≤ (dGo old now a zs t).1 ∧ (dGo old now a zs t).1 + (dGo old now a zs t).2 ≤ old.length ∧ (old.drop (dGo old now a zs t).1.toNat).take (dGo old now a zs t).2.toNat = (now.drop a).take (dGo old now a zs t).2.toNat
  | [], t, _, h => h
  | z :: zs, t, hz, h => by
    rw [dGo]
    refine dGo_good old now a zs _ (fun y hy => hz y (List.mem_cons_of_mem _ hy)) ?_
    split
    · intro _
      have h0 := hz z (List.mem_cons_self ..)
      have h1 := (alikeN_le (old.drop z.toNat) (now.drop a)).1
      rw [List.length_drop] at h1
      refine ⟨h0.1, ?_, ?_⟩
      · show z + ((alikeN (old.drop z.toNat) (now.drop a) : Nat) : Int) ≤ old.length
        omega
      · show (old.drop z.toNat).take (((alikeN (old.drop z.toNat) (now.drop a) : Nat) : Int)).toNat = _
        rw [Int.toNat_natCast]
        exact alikeN_take _ _
    · exact h
theorem dBest_good (old now : List Int) (a : Nat) (h : 0 < (dBest old now a).2) : 0 ≤ (dBest old now a).1 ∧ (dBest old now a).1 + (dBest old now a).2 ≤ old.length ∧ (old.drop (dBest old now a).1.toNat).take (dBest old now a).2.toNat = (now.drop a).take (dBest old now a).2.toNat := by
  unfold dBest at h ⊢
  split at h
  · rename_i c
    rw [if_pos c]
    exact dGo_good old now a _ _ (fun z hz => sposs_mem old _ _ z hz) (fun h => absurd h (by simp)) h
  · exact absurd h (by simp)
theorem deltaGo_flat (old now : List Int) : ∀ (f a : Nat) (ps : List S31), now.length ≤ a + f → a ≤ now.length → (∀ p, p ∈ ps → Good old p) → flat old ps = now.take a → (∀ p, p ∈ deltaGo old now f a ps → Good old p) ∧ flat old (deltaGo old now f a ps) = now := by
  intro f
  induction f with
  | zero =>
    intro a ps h1 h2 h3 h4
    rw [deltaGo]
    exact ⟨h3, by rw [h4, List.take_of_length_le (by omega)]⟩
  | succ f ih =>
    intro a ps h1 h2 h3 h4
    rw [deltaGo]
    by_cases c : a < now.length
    · rw [if_pos c]
      by_cases d : (dBest old now a).2 > 0
      · rw [if_pos d]
        obtain ⟨g1, g2, g3⟩ := dBest_good old now a d
        obtain ⟨_, g4⟩ := dBest_in old now a h2
        refine ih _ _ (by omega) g4 ?_ ?_
        · intro p hp
          rcases List.mem_append.1 hp with hp | hp
          · exact h3 p hp
          · simp at hp
            subst hp
            exact .inl ⟨rfl, rfl, g1, d, g2⟩
        · rw [flat_snoc, h4, List.take_add]
          congr 1
          rw [← g3]
          unfold says
          show (old.take ((dBest old now a).1 + (dBest old now a).2).toNat).drop (dBest old now a).1.toNat ++ [] = _
          rw [List.append_nil, List.drop_take]
          congr 1
          omega
      · rw [if_neg d]
        have hx : now.take (a + 1) = now.take a ++ [rd now (a : Int)] := by
          rw [List.take_add, List.drop_eq_getElem_cons c]
          congr 1
          unfold rd
          rw [Int.toNat_natCast, List.getD_eq_getElem?_getD, List.getElem?_eq_getElem c]
          rfl
        rcases tell_cases ps (rd now (a : Int)) with e | ⟨qs, p, rfl, hp0, e⟩
        · rw [e]
          refine ih _ _ (by omega) (by omega) ?_ ?_
          · intro p hp
            rcases List.mem_append.1 hp with hp | hp
            · exact h3 p hp
            · simp at hp
              subst hp
              exact .inr ⟨rfl, rfl, rfl, by simp⟩
          · rw [flat_snoc, h4, hx, says_told _ _ rfl rfl]
        · rw [e]
          have hg := h3 p (by simp)
          rcases hg with ⟨g, _⟩ | ⟨_, g1, g2, g3⟩
          · rw [hp0] at g; exact absurd g (by simp)
          refine ih _ _ (by omega) (by omega) ?_ ?_
          · intro q hq
            rcases List.mem_append.1 hq with hq | hq
            · exact h3 q (List.mem_append.2 (.inl hq))
            · simp at hq
              subst hq
              exact .inr ⟨hp0, g1, g2, by simp⟩
          · rw [flat_snoc, says_told _ _ g1 g2] at h4
            rw [flat_snoc, says_told old { p with f3 := p.f3 ++ [rd now (a : Int)] } g1 g2, hx, ← h4, List.append_assoc]
    · rw [if_neg c]
      exact ⟨h3, by rw [h4, List.take_of_length_le (by omega)]⟩
theorem delta_flat (old now : List Int) : (∀ p, p ∈ deltaGo old now now.length 0 [] → Good old p) ∧ flat old (deltaGo old now now.length 0 []) = now := deltaGo_flat old now now.length 0 [] (by omega) (by omega) (fun p hp => by simp at hp) (by simp [flat])
theorem says_pos (old : List Int) (p : S31) (h : Good old p) : 0 < (says old p).length := by
  rcases h with ⟨_, h1, h2, h3, h4⟩ | ⟨_, h1, h2, h3⟩
  · unfold says
    rw [h1, List.append_nil, List.length_drop, List.length_take]
    omega
  · rw [says_told _ _ h1 h2]
    exact List.length_pos_iff.2 h3
theorem flat_len (old : List Int) : ∀ (ps : List S31), (∀ p, p ∈ ps → Good old p) → ps.length ≤ (flat old ps).length
  | [], _ => by simp [flat]
  | p :: ps, h => by
    have h1 := says_pos old p (h p (List.mem_cons_self ..))
    have h2 := flat_len old ps (fun q hq => h q (List.mem_cons_of_mem _ hq))
    have e : flat old (p :: ps) = says old p ++ flat old ps := by simp [flat]
    rw [e, List.length_append, List.length_cons]
    omega

theorem oct_inj : ∀ (a b : List Int), Oct a → Oct b → a.map (fun n => UInt8.ofNat n.toNat) = b.map (fun n => UInt8.ofNat n.toNat) → a = b
  | [], [], _, _, _ => rfl
  | [], y :: ys, _, _, h => by simp at h
  | x :: xs, [], _, _, h => by simp at h
  | x :: xs, y :: ys, ha, hb, h => by
    rw [List.map_cons, List.map_cons] at h
    injection h with h1 h2
    have e := congrArg UInt8.toNat h1
    rw [UInt8.toNat_ofNat', UInt8.toNat_ofNat'] at e
    have h3 := ha x (List.mem_cons_self ..)
    have h4 := hb y (List.mem_cons_self ..)
    rw [oct_inj xs ys (fun z hz => ha z (List.mem_cons_of_mem _ hz)) (fun z hz => hb z (List.mem_cons_of_mem _ hz)) h2]
    congr 1
    omega
theorem str_inj (a b : List Int) (ha : Oct a) (hb : Oct b) (h : strOfNums a = strOfNums b) : a = b := by
  have := congrArg (fun s => s.data.toList) h
  exact oct_inj a b ha hb this
theorem alikeN_ge : ∀ (n : Nat) (a b : List Int), n ≤ a.length → n ≤ b.length → a.take n = b.take n → n ≤ alikeN a b
  | 0, _, _, _, _, _ => Nat.zero_le _
  | n + 1, [], _, h, _, _ => by simp at h
  | n + 1, _ :: _, [], _, h, _ => by simp at h
  | n + 1, x :: xs, y :: ys, h1, h2, h3 => by
    rw [List.take_succ_cons, List.take_succ_cons] at h3
    injection h3 with h4 h5
    rw [alikeN, if_pos h4]
    have := alikeN_ge n xs ys (by simpa using h1) (by simpa using h2) h5
    omega
theorem alikeN_self : ∀ (a : List Int), alikeN a a = a.length
  | [] => rfl
  | x :: xs => by rw [alikeN, if_pos rfl, alikeN_self xs, List.length_cons]
theorem win_eq (l : List Int) (p : Nat) : win l p = (l.drop p).take 8 := by
  unfold win
  rw [List.drop_take]
  congr 1
  omega
theorem Oct.win {l : List Int} (h : Oct l) (p : Nat) : Oct (win l p) := fun x hx => by
  rw [win_eq] at hx
  exact h x (List.mem_of_mem_drop (List.mem_of_mem_take hx))
theorem dGo_ge (old now : List Int) (a : Nat) : ∀ (zs : List Int) (t : Int × Int), t.2 ≤ (dGo old now a zs t).2 ∧ ∀ z, z ∈ zs → ((alikeN (old.drop z.toNat) (now.drop a) : Nat) : Int) ≤ (dGo old now a zs t).2
  | [], t => ⟨Int.le_refl _, fun z hz => by simp at hz⟩
  | y :: zs, t => by
    rw [dGo]
    have h := dGo_ge old now a zs (if ((alikeN (old.drop y.toNat) (now.drop a) : Nat) : Int) > t.2 then (y, ((alikeN (old.drop y.toNat) (now.drop a) : Nat) : Int)) else t)
    have h0 : t.2 ≤ (if ((alikeN (old.drop y.toNat) (now.drop a) : Nat) : Int) > t.2 then (y, ((alikeN (old.drop y.toNat) (now.drop a) : Nat) : Int)) else t).2 ∧ ((alikeN (old.drop y.toNat) (now.drop a) : Nat) : Int) ≤ (if ((alikeN (old.drop y.toNat) (now.drop a) : Nat) : Int) > t.2 then (y, ((alikeN (old.drop y.toNat) (now.drop a) : Nat) : Int)) else t).2 := by
      split
      · constructor
        · show t.2 ≤ ((alikeN (old.drop y.toNat) (now.drop a) : Nat) : Int)
          omega
        · exact Int.le_refl _
      · omega
    refine ⟨Int.le_trans h0.1 h.1, fun z hz => ?_⟩
    rcases List.mem_cons.1 hz with rfl | hz
    · exact Int.le_trans h0.2 h.1
    · exact h.2 z hz
theorem dGo_eight (old now : List Int) (a : Nat) : ∀ (zs : List Int) (t : Int × Int), (t.2 = 0 ∨ 8 ≤ t.2) → (∀ z, z ∈ zs → 8 ≤ alikeN (old.drop z.toNat) (now.drop a)) → (dGo old now a zs t).2 = 0 ∨ 8 ≤ (dGo old now a zs t).2
  | [], t, h, _ => h
  | y :: zs, t, h, hz => by
    rw [dGo]
    refine dGo_eight old now a zs _ ?_ (fun z h => hz z (List.mem_cons_of_mem _ h))
    have := hz y (List.mem_cons_self ..)
    split
    · right
      show (8 : Int) ≤ ((alikeN (old.drop y.toNat) (now.drop a) : Nat) : Int)
      omega
    · exact h
theorem sposs_iff (l : List Int) (a : Nat) (k : ByteArray) (z : Int) : z ∈ sposs l a k ↔ ∃ p : Nat, p < a ∧ strOfNums (win l p) = k ∧ z = (p : Int) := by
  unfold sposs
  simp only [List.mem_map, List.mem_filter, List.mem_range, decide_eq_true_eq]
  constructor
  · rintro ⟨p, ⟨h1, h2⟩, rfl⟩
    exact ⟨p, h1, h2, rfl⟩
  · rintro ⟨p, h1, h2, rfl⟩
    exact ⟨p, ⟨h1, h2⟩, rfl⟩
theorem alike_win (old now : List Int) (z a : Nat) (hz : z + 8 ≤ old.length) (ha : a + 8 ≤ now.length) (h : win old z = win now a) : 8 ≤ alikeN (old.drop z) (now.drop a) := by
  rw [win_eq, win_eq] at h
  exact alikeN_ge 8 _ _ (by rw [List.length_drop]; omega) (by rw [List.length_drop]; omega) h
theorem dBest_eight (old now : List Int) (ho : Oct old) (hn : Oct now) (a : Nat) (h : 0 < (dBest old now a).2) : 8 ≤ (dBest old now a).2 := by
  unfold dBest at h ⊢
  split at h
  · rename_i c
    rw [if_pos c]
    have := dGo_eight old now a (sposs old (old.length - 7) (strOfNums (win now a))) (0, 0) (.inl rfl) (fun z hz => by
      obtain ⟨p, h1, h2, rfl⟩ := (sposs_iff _ _ _ _).1 hz
      rw [Int.toNat_natCast]
      exact alike_win old now p a (by omega) c (str_inj _ _ (ho.win p) (hn.win a) h2))
    omega
  · exact absurd h (by simp)
theorem dBest_found (old now : List Int) (z a : Nat) (hz : z + 8 ≤ old.length) (ha : a + 8 ≤ now.length) (h : win old z = win now a) : 0 < (dBest old now a).2 := by
  have h8 := alike_win old now z a hz ha h
  unfold dBest
  rw [if_pos ha]
  have := (dGo_ge old now a (sposs old (old.length - 7) (strOfNums (win now a))) (0, 0)).2 (z : Int) ((sposs_iff _ _ _ _).2 ⟨z, by omega, by rw [h], rfl⟩)
  rw [Int.toNat_natCast] at this
  omega
theorem dGo_stay (old now : List Int) (a : Nat) : ∀ (zs : List Int) (t : Int × Int), ((now.length - a : Nat) : Int) ≤ t.2 → dGo old now a zs t = t
  | [], t, _ => rfl
  | y :: zs, t, h => by
    have h1 := (alikeN_le (old.drop y.toNat) (now.drop a)).2
    rw [List.length_drop] at h1
    rw [dGo, if_neg (by omega)]
    exact dGo_stay old now a zs t h
theorem self_best (x : List Int) (hx : 8 ≤ x.length) : dBest x x 0 = (0, (x.length : Int)) := by
  unfold dBest
  rw [if_pos (by omega)]
  obtain ⟨m, hm⟩ : ∃ m, x.length - 7 = m + 1 := ⟨x.length - 8, by omega⟩
  have e : sposs x (x.length - 7) (strOfNums (win x 0)) = 0 :: ((List.range' 1 m).filter (fun p => decide (strOfNums (win x p) = strOfNums (win x 0)))).map (fun p => ((p : Nat) : Int)) := by
    unfold sposs
    rw [hm, List.range_eq_range', List.range'_succ, List.filter_cons, if_pos (by simp), List.map_cons]
    rfl
  rw [e, dGo]
  have e0 : alikeN (x.drop (0 : Int).toNat) (x.drop 0) = x.length := by
    show alikeN (x.drop 0) (x.drop 0) = x.length
    rw [List.drop_zero, alikeN_self]
  rw [e0, if_pos (show ((x.length : Nat) : Int) > 0 by omega)]
  exact dGo_stay x x 0 _ _ (by show ((x.length - 0 : Nat) : Int) ≤ (x.length : Int); omega)
theorem self_one (x : List Int) (hx : 8 ≤ x.length) : deltaGo x x x.length 0 [] = [⟨true, 0, (x.length : Int), []⟩] := by
  have e := self_best x hx
  rw [deltaGo_copy x x 0 [] (by omega) (by rw [e]; show (x.length : Int) > 0; omega), e, deltaGo_stop]
  · rfl
  · show ¬ (0 + (x.length : Int).toNat < x.length)
    omega
/-- the bytes told -/
def told (ps : List S31) : Nat := (ps.map (fun p => p.f3.length)).sum
theorem told_snoc (ps : List S31) (p : S31) : told (ps ++ [p]) = told ps + p.f3.length := by simp [told]
theorem tell_told (ps : List S31) (x : Int) : told (tellByte ps x) = told ps + 1 := by
  rcases tell_cases ps x with e | ⟨qs, p, rfl, _, e⟩
  · rw [e, told_snoc]; rfl
  · rw [e, told_snoc, told_snoc, List.length_append]
    simp
    omega
theorem tell_small (ps : List S31) (x : Int) (h : ∀ p, p ∈ ps → p.f0 = true → 8 ≤ p.f2) : ∀ p, p ∈ tellByte ps x → p.f0 = true → 8 ≤ p.f2 := by
  intro q hq
  rcases tell_cases ps x with e | ⟨qs, p, rfl, h0, e⟩
  · rw [e] at hq
    rcases List.mem_append.1 hq with hq | hq
    · exact h q hq
    · simp at hq
      subst hq
      intro h
      exact absurd h (by simp)
  · rw [e] at hq
    rcases List.mem_append.1 hq with hq | hq
    · exact h q (List.mem_append.2 (.inl hq))
    · simp at hq
      subst hq
      intro h
      rw [h0] at h
      exact absurd h (by simp)
theorem deltaGo_small (old now : List Int) (ho : Oct old) (hn : Oct now) (P T M : Nat) (hP : P + T ≤ now.length) (H : ∀ a, a + 8 ≤ P ∨ (P + T ≤ a ∧ a + 8 ≤ now.length) → 0 < (dBest old now a).2) :
    ∀ (f a : Nat) (ps : List S31), a ≤ now.length → (∀ p, p ∈ ps → p.f0 = true → 8 ≤ p.f2) → told ps + ((P + T - max a (P - 7)) + (now.length - max a (now.length - 7))) ≤ M → (∀ p, p ∈ deltaGo old now f a ps → p.f0 = true → 8 ≤ p.f2) ∧ told (deltaGo old now f a ps) ≤ M := by
  intro f
  induction f with
  | zero =>
    intro a ps h1 h2 h3
    rw [deltaGo]
    exact ⟨h2, by omega⟩
  | succ f ih =>
    intro a ps h1 h2 h3
    rw [deltaGo]
    by_cases c : a < now.length
    · rw [if_pos c]
      by_cases d : (dBest old now a).2 > 0
      · rw [if_pos d]
        have g := (dBest_in old now a h1).2
        refine ih _ _ g ?_ ?_
        · intro p hp
          rcases List.mem_append.1 hp with hp | hp
          · exact h2 p hp
          · simp at hp
            subst hp
            intro _
            exact dBest_eight old now ho hn a d
        · rw [told_snoc]
          show told ps + 0 + _ ≤ M
          obtain ⟨e, he⟩ : ∃ e, (dBest old now a).2.toNat = e := ⟨_, rfl⟩
          rw [he] at g ⊢
          omega
      · rw [if_neg d]
        have hh : ¬ (a + 8 ≤ P ∨ (P + T ≤ a ∧ a + 8 ≤ now.length)) := fun h => d (H a h)
        refine ih _ _ (by omega) (tell_small ps _ h2) ?_
        rw [tell_told]
        omega
    · rw [if_neg c]
      exact ⟨h2, by omega⟩
theorem told_cons (p : S31) (ps : List S31) : told (p :: ps) = p.f3.length + told ps := by simp [told]
theorem small_l0 (t : List Int) (ps : List S31) (hl : ps.length ≤ 5000) (h8 : ∀ p, p ∈ ps → p.f0 = true → 8 ≤ p.f2) (ht : t.length ≤ 100) : ∀ (r : List S31) (i k n : Nat), ps.drop i = r → i ≤ ps.length → n + told r ≤ t.length + 14 → r.length < k → packthreadkeep_DeltaSmall.l0 k t ps (n : Int) (i : Int) = some true := by
  intro r
  induction r with
  | nil =>
    intro i k n h1 h2 h3 h4
    obtain ⟨k, rfl⟩ : ∃ q, k = q + 1 := ⟨k - 1, by omega⟩
    have hl : ps.length ≤ i := List.drop_eq_nil_iff.1 h1
    rw [packthreadkeep_DeltaSmall.l0, if_neg (by omega), wrap64_id (by omega) (by omega), decide_eq_true (by omega)]
  | cons p r ih =>
    intro i k n h1 h2 h3 h4
    rw [List.length_cons] at h4
    obtain ⟨k, rfl⟩ : ∃ q, k = q + 1 := ⟨k - 1, by omega⟩
    have h5 : ps[i]? = some p := by
      have := congrArg List.head? h1
      rw [List.head?_drop] at this
      exact this
    obtain ⟨hi, he⟩ := List.getElem?_eq_some_iff.1 h5
    have h6 : ps.drop (i + 1) = r := by
      have := congrArg List.tail h1
      rw [List.tail_drop] at this
      exact this
    have h7 : rd_T31 ps (i : Int) = p := by unfold rd_T31; rw [Int.toNat_natCast, List.getD_eq_getElem?_getD, h5]; rfl
    rw [told_cons] at h3
    have hih := ih (i + 1) k (n + p.f3.length) h6 (by omega) (by omega) (by omega)
    rw [packthreadkeep_DeltaSmall.l0, if_pos (by omega), if_pos (by omega), h7, wrap64_id (x := (n : Int) + (p.f3.length : Int)) (by omega) (by omega), wrap64_id (x := (i : Int) + 1) (by omega) (by omega), show (n : Int) + (p.f3.length : Int) = ((n + p.f3.length : Nat) : Int) by omega, show (i : Int) + 1 = ((i + 1 : Nat) : Int) by omega, hih]
    by_cases c : p.f0 = true
    · rw [if_pos c, if_neg]
      have := h8 p (by rw [← he]; exact List.getElem_mem _) c
      omega
    · rw [if_neg c]
theorem DeltaSmall : packthreadkeep_DeltaSmall.Pure := by
  intro a0 a1 a2 l3 _ _ _ _ _ hw
  obtain ⟨k, hk⟩ : ∃ k, 2000000 ≤ k := ⟨2000000, Nat.le_refl _⟩
  refine ⟨k, ?_⟩
  have hp0 := Int.emod_nonneg a1 (show (300 : Int) ≠ 0 by omega)
  have hp1 := Int.emod_lt_of_pos a1 (show (0 : Int) < 300 by omega)
  obtain ⟨n, hn⟩ : ∃ n : Nat, 8 + a1 % 300 = (n : Int) := ⟨(8 + a1 % 300).toNat, by omega⟩
  obtain ⟨x, hx, hxl, hxo⟩ := stream_eq a0 n (by omega) k (by omega)
  have hq0 := Int.emod_nonneg a2 (show ((n : Int) + 1) ≠ 0 by omega)
  have hq1 := Int.emod_lt_of_pos a2 (show (0 : Int) < (n : Int) + 1 by omega)
  obtain ⟨p, hp⟩ : ∃ p : Nat, a2 % ((n : Int) + 1) = (p : Int) := ⟨(a2 % ((n : Int) + 1)).toNat, by omega⟩
  obtain ⟨t, ht⟩ : ∃ t, l3.take 30 = t := ⟨_, rfl⟩
  have hto : Oct t := by rw [← ht]; exact (oct_of hw).take 30
  have htl : t.length ≤ 30 := by rw [← ht, List.length_take]; omega
  have hl1 : (x.take p).length = p := by rw [List.length_take]; omega
  have hl2 : (x.drop p).length = n - p := by rw [List.length_drop, hxl]
  unfold packthreadkeep_DeltaSmall.f
  rw [picked_eq _ _ (by decide) (by decide), Option.bind_some, wrap64_id (x := 8 + a1 % 300) (by omega) (by omega), hn, hx, Option.bind_some, hxl, wrap64_id (x := (n : Int) + 1) (by omega) (by omega), picked_eq _ _ (by omega) (by omega), Option.bind_some, hp, octets_eq l3 30 30 rfl (by omega), Option.bind_some, ht, Int.toNat_natCast, if_pos (by omega), if_pos (by omega), Option.bind_some, if_pos (by rw [List.length_nil]; omega), List.nil_append, Option.bind_some, if_pos (by omega), Option.bind_some, Option.bind_some, if_pos (by rw [List.length_append]; omega)]
  obtain ⟨now, hnow⟩ : ∃ y, x.take p ++ t ++ x.drop p = y := ⟨_, rfl⟩
  have hnl : now.length = n + t.length := by rw [← hnow, List.length_append, List.length_append]; omega
  have hno : Oct now := by
    rw [← hnow]
    refine ((hxo.take p).append hto).append ?_
    intro y hy
    exact hxo y (List.mem_of_mem_drop hy)
  have d1 : delta_Delta.f x x = some ([⟨true, 0, (x.length : Int), []⟩], 0) := by unfold delta_Delta.f; rw [if_neg (by omega), self_one x (by omega)]
  have d2 : delta_Delta.f x now = some (deltaGo x now now.length 0 [], 0) := by unfold delta_Delta.f; rw [if_neg (by omega)]
  have H : ∀ a, a + 8 ≤ p ∨ (p + t.length ≤ a ∧ a + 8 ≤ now.length) → 0 < (dBest x now a).2 := by
    intro a h
    rcases h with h | ⟨h, h'⟩
    · refine dBest_found x now a a (by omega) (by omega) ?_
      unfold win
      congr 1
      rw [← hnow, List.append_assoc, List.take_append_of_le_length (by omega), List.take_take, Nat.min_eq_left h]
    · refine dBest_found x now (a - t.length) a (by omega) (by omega) ?_
      rw [win_eq, win_eq]
      congr 1
      have hab : (x.take p ++ t).length = p + t.length := by rw [List.length_append]; omega
      have hz : (x.take p ++ t).drop a = [] := List.drop_eq_nil_of_le (by omega)
      rw [← hnow, List.drop_append, hz, List.nil_append, List.drop_drop, hab]
      congr 1
      omega
  obtain ⟨s1, s2⟩ := deltaGo_small x now hxo hno p t.length (t.length + 14) (by omega) H now.length 0 [] (by omega) (fun p hp => by simp at hp) (by show 0 + _ ≤ _; omega)
  obtain ⟨f1, f2⟩ := delta_flat x now
  have f3 := flat_len x _ f1
  rw [f2] at f3
  rw [hnow, d1, Option.bind_some, d2, Option.bind_some, if_pos rfl, if_pos rfl, if_pos (by simp), if_pos (by simp)]
  have e1 : rd_T31 [⟨true, 0, (x.length : Int), []⟩] 0 = ⟨true, 0, (x.length : Int), []⟩ := rfl
  rw [e1, if_pos (show ((x.length : Nat) : Int) = (n : Int) by omega)]
  obtain ⟨k, rfl⟩ : ∃ q, k = q + 1 := ⟨k - 1, by omega⟩
  rw [show ((0 : Int) != 0) = false from rfl, packthreadkeep_DeltaSmall.j0, if_neg (by decide)]
  exact small_l0 t _ (by omega) s1 (by omega) (deltaGo x now now.length 0 []) 0 k 0 (List.drop_zero) (by omega) (by omega) (by omega)

end Go.Proofs.Ytknpmpfcmgjpdaa.Pure
