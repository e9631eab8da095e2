/- Proved: for every input the law PatchParts answers true: pieces make what they make, one behind the other. Condition: none (every row of bytes, every two rows of numbers). -/
import Derived.Test.YtblkhkipbcpaiaaPPatchPartsx3
namespace Go.Proofs.Ytblkhkipbcpaiaa.Pure
open Go.RowKit Go.Proofs.Ytblkhkipbcpaiaa.PPatchParts Go.Proofs.YtblkhkipbcpaiaaW.PrintWords Go.Proofs.YtblkhkipbcpaiaaW.PrintLast
set_option linter.unusedVariables false

theorem wrap64_id {x : Int} (h0 : -9223372036854775808 ≤ x) (h1 : x ≤ 9223372036854775807) : wrap64 x = x := by unfold wrap64; omega

theorem picked_eq (a n : Int) (h0 : 0 < n) (h1 : n ≤ 1000000000000) : packthreadkeep_Picked.f a n = some (a % n) := by
  unfold packthreadkeep_Picked.f
  rw [if_neg (by omega)]
  have hm := Int.tmod_eq_emod (a := a) (b := n)
  have hlo := Int.emod_nonneg a (show n ≠ 0 by omega)
  have hhi := Int.emod_lt_of_pos a h0
  by_cases hc : 0 ≤ a ∨ n ∣ a
  · rw [if_pos hc] at hm
    have e : a.tmod n = a % n := by rw [hm]; simp
    rw [e, if_neg (by omega)]
  · rw [if_neg hc] at hm
    have e : a.tmod n = a % n - n := by rw [hm]; congr 1; omega
    rw [e, if_pos (by omega), wrap64_id (by omega) (by omega)]
    congr 1; omega

def Oct (l : List Int) : Prop := ∀ x ∈ l, 0 ≤ x ∧ x ≤ 255
theorem oct_of {l : List Int} (h : ∀ x ∈ l, (Lit.int .u8 x).wf = true) : Oct l := fun x hx => by
  have := h x hx
  simp [Lit.wf, IntKind.min, IntKind.max, IntKind.signed, IntKind.bits] at this
  omega
theorem Oct.take {l : List Int} (h : Oct l) (n : Nat) : Oct (l.take n) := fun x hx => h x (List.mem_of_mem_take hx)
theorem Oct.append {a b : List Int} (h : Oct a) (g : Oct b) : Oct (a ++ b) := fun x hx => by
  rcases List.mem_append.1 hx with h1 | h1
  · exact h x h1
  · exact g x h1
theorem Oct.set {l : List Int} (h : Oct l) (i : Nat) (v : Int) (h0 : 0 ≤ v) (h1 : v ≤ 255) : Oct (l.set i v) := fun x hx => by
  rcases List.mem_or_eq_of_mem_set hx with h2 | h2
  · exact h x h2
  · subst h2; exact ⟨h0, h1⟩
theorem Oct.getD {l : List Int} (h : Oct l) (i : Nat) : 0 ≤ l.getD i 0 ∧ l.getD i 0 ≤ 255 := by
  by_cases c : i < l.length
  · rw [List.getD_eq_getElem?_getD, List.getElem?_eq_getElem c]; exact h _ (List.getElem_mem c)
  · rw [List.getD_eq_getElem?_getD, List.getElem?_eq_none (by omega)]; simp
theorem octets_eq (l : List Int) (n : Int) (m : Nat) (hm : n = (m : Int)) (hn : m ≤ 1000000) : packthreadkeep_Octets.f l n = some (l.take m) := by
  subst hm
  have e : (mn (l.length : Int) m).toNat = min l.length m := by unfold mn; split <;> omega
  have e0 : 0 ≤ mn (l.length : Int) m := by unfold mn; split <;> omega
  have e1 : mn (l.length : Int) m ≤ l.length := by unfold mn; split <;> omega
  unfold packthreadkeep_Octets.f
  rw [if_pos e0, if_pos e1, e, if_pos (by rw [List.length_take, List.length_nil]; omega), List.nil_append]
  congr 1
  by_cases c : l.length ≤ m
  · rw [Nat.min_eq_left c, List.take_length, List.take_of_length_le c]
  · rw [Nat.min_eq_right (by omega)]

theorem sameb_l0 (l : List Int) (hL : l.length ≤ 100000) : ∀ (m i k : Nat), i + m = l.length → m < k → packthreadkeep_sameBytes.l0 k l l (i : Int) = some true := by
  intro m
  induction m with
  | zero =>
    intro i k hi hk
    obtain ⟨k, rfl⟩ : ∃ q, k = q + 1 := ⟨k - 1, by omega⟩
    rw [packthreadkeep_sameBytes.l0, if_neg (by omega)]
  | succ m ih =>
    intro i k hi hk
    obtain ⟨k, rfl⟩ : ∃ q, k = q + 1 := ⟨k - 1, by omega⟩
    have hw1 : wrap64 ((i : Int) + 1) = ((i + 1 : Nat) : Int) := by rw [wrap64_id (by omega) (by omega)]; omega
    rw [packthreadkeep_sameBytes.l0, if_pos (by omega), if_pos (by omega), if_pos (by omega), if_pos rfl, hw1]
    exact ih (i + 1) k (by omega) (by omega)
theorem sameb_eq (k : Nat) (l : List Int) (hL : l.length ≤ 100000) (hk : l.length < k) : packthreadkeep_sameBytes.f k l l = some true := by
  unfold packthreadkeep_sameBytes.f
  rw [if_pos rfl]
  exact sameb_l0 l hL l.length 0 k (by omega) (by omega)

def says (old : List Int) (p : S42) : List Int := (old.take (p.f1 + p.f2).toNat).drop p.f1.toNat ++ p.f3
def flat (old : List Int) (ps : List S42) : List Int := ps.flatMap (says old)
def GoodP (old : List Int) (p : S42) : Prop := (p.f0 = true ∧ p.f3 = [] ∧ 0 ≤ p.f1 ∧ 0 ≤ p.f2 ∧ p.f1 + p.f2 ≤ old.length) ∨ (p.f0 = false ∧ p.f1 = 0 ∧ p.f2 = 0)
theorem rd_T42_drop (ps : List S42) (i : Nat) (p : S42) (r : List S42) (h : ps.drop i = p :: r) : rd_T42 ps (i : Int) = p ∧ i < ps.length ∧ ps.drop (i + 1) = r := by
  have h1 : ps[i]? = some p := by
    have := congrArg List.head? h
    rw [List.head?_drop] at this
    exact this
  obtain ⟨hl, he⟩ := List.getElem?_eq_some_iff.1 h1
  refine ⟨by unfold rd_T42; rw [Int.toNat_natCast, List.getD_eq_getElem?_getD, h1]; rfl, hl, ?_⟩
  have := congrArg List.tail h
  rw [List.tail_drop] at this
  exact this
theorem patch_l0 (old : List Int) (ps : List S42) (ho : old.length ≤ 2048) : ∀ (r : List S42) (i k : Nat) (x : List Int), ps.drop i = r → i ≤ ps.length → ps.length ≤ 2048 → (∀ p, p ∈ r → GoodP old p) → (x ++ flat old r).length ≤ 2048 → 4 * r.length < k → delta_Patch.l0 k old x ps (ps.length : Int) (i : Int) = some (x ++ flat old r, 0) := by
  intro r
  induction r with
  | nil =>
    intro i k x h1 h2 h3 h4 h5 h6
    obtain ⟨k, rfl⟩ : ∃ q, k = q + 1 := ⟨k - 1, by omega⟩
    have hl : ps.length ≤ i := List.drop_eq_nil_iff.1 h1
    have e : flat old [] = [] := rfl
    rw [e, List.append_nil] at h5
    rw [delta_Patch.l0, if_neg (by omega), e, List.append_nil]
    unfold slices_Clone_byte_byte.f
    rw [Option.bind_some, if_pos (by rw [List.length_nil]; omega), List.nil_append, Option.bind_some]
  | cons p r ih =>
    intro i k x h1 h2 h3 h4 h5 h6
    rw [List.length_cons] at h6
    obtain ⟨k, rfl⟩ : ∃ q, k = q + 4 := ⟨k - 4, by omega⟩
    obtain ⟨g1, g2, g3⟩ := rd_T42_drop ps i p r h1
    have e : flat old (p :: r) = says old p ++ flat old r := by simp [flat]
    rw [e, ← List.append_assoc] at h5
    have hs : (x ++ says old p).length ≤ 2048 := by rw [List.length_append] at h5; omega
    have hih := ih (i + 1) k (x ++ says old p) g3 (by omega) h3 (fun q hq => h4 q (List.mem_cons_of_mem _ hq)) h5 (by omega)
    rw [e, ← List.append_assoc, ← hih]
    have hr1 : 0 ≤ p.f1 ∧ 0 ≤ p.f2 ∧ p.f1 + p.f2 ≤ old.length := by
      rcases h4 p (List.mem_cons_self ..) with ⟨_, _, a, b, c⟩ | ⟨_, a, b⟩ <;> omega
    have hj4 : delta_Patch.j4 (k + 1) old x ps (ps.length : Int) (i : Int) false p.f0 p.f1 p.f2 p.f3 = delta_Patch.l0 k old (x ++ says old p) ps (ps.length : Int) ((i + 1 : Nat) : Int) := by
      have hsl : (x ++ (old.take (p.f1 + p.f2).toNat).drop p.f1.toNat).length + p.f3.length ≤ 2048 := by
        have := hs
        unfold says at this
        rw [← List.append_assoc, List.length_append] at this
        exact this
      rw [delta_Patch.j4, if_neg (by decide), if_pos hr1.1, wrap64_id (x := p.f1 + p.f2) (by omega) (by omega), if_pos (by omega), if_pos (by omega), if_pos (by rw [List.length_append] at hsl; omega), Option.bind_some, if_pos (by omega), Option.bind_some, if_neg (by rw [List.length_append]; omega), wrap64_id (x := (i : Int) + 1) (by omega) (by omega), List.append_assoc]
      rfl
    have hj3 : delta_Patch.j3 (k + 1 + 1) old x ps (ps.length : Int) (i : Int) false p.f0 p.f1 p.f2 p.f3 = delta_Patch.j4 (k + 1) old x ps (ps.length : Int) (i : Int) false p.f0 p.f1 p.f2 p.f3 := by
      rw [delta_Patch.j3, if_neg (by decide), if_neg (by omega), if_neg (by omega), if_neg (by omega), wrap64_id (by omega) (by omega), decide_eq_false (by omega)]
    have hj2 : delta_Patch.j2 (k + 1 + 1 + 1) old x ps (ps.length : Int) (i : Int) false p.f0 p.f1 p.f2 p.f3 = delta_Patch.j3 (k + 1 + 1) old x ps (ps.length : Int) (i : Int) false p.f0 p.f1 p.f2 p.f3 := by
      rw [delta_Patch.j2, if_neg (by decide)]
      rcases h4 p (List.mem_cons_self ..) with ⟨a, _⟩ | ⟨a, b, c⟩
      · rw [if_pos a]
      · rw [if_neg (by rw [a]; decide), if_pos b, c]
        rfl
    rw [delta_Patch.l0, if_pos (by omega), if_pos (by omega), if_pos (by omega), g1, ← hj4, ← hj3, ← hj2]
    rcases h4 p (List.mem_cons_self ..) with ⟨a, b, _⟩ | ⟨a, _⟩
    · rw [if_pos a, b]
      rfl
    · rw [if_neg (by rw [a]; decide)]
theorem patch_eq (old : List Int) (ps : List S42) (ho : old.length ≤ 2048) (hg : ∀ p, p ∈ ps → GoodP old p) (hp : ps.length ≤ 2000) (hl : (flat old ps).length ≤ 2048) (k : Nat) (hk : 9000 ≤ k) : delta_Patch.f k old ps = some (flat old ps, 0) := by
  unfold delta_Patch.f
  obtain ⟨k, rfl⟩ : ∃ q, k = q + 1 := ⟨k - 1, by omega⟩
  rw [if_neg (by omega), decide_eq_false (by omega), delta_Patch.j0, if_neg (by decide)]
  have := patch_l0 old ps ho ps 0 k [] (List.drop_zero ..) (Nat.zero_le _) (by omega) hg (by rw [List.nil_append]; exact hl) (by omega)
  rw [List.nil_append] at this
  exact this
/-- what a piece of a raw number is -/
def pieceP (L : Nat) (n : Int) : S42 := if n % 3 = 0 then ⟨false, 0, 0, [n % 256, 1]⟩ else ⟨true, wrap64 (Int.tdiv n 3) % ((L : Int) + 1), wrap64 (Int.tdiv n 601) % ((L : Int) - wrap64 (Int.tdiv n 3) % ((L : Int) + 1) + 1), []⟩
theorem piece_eq (old : List Int) (ho : old.length ≤ 200) (n : Int) : pieceF old.length n = some (pieceP old.length n) ∧ GoodP old (pieceP old.length n) ∧ (says old (pieceP old.length n)).length ≤ 200 := by
  unfold pieceF pieceP
  obtain ⟨L, hL⟩ : ∃ L, old.length = L := ⟨_, rfl⟩
  rw [hL] at ho ⊢
  rw [picked_eq _ _ (by decide) (by decide), Option.bind_some]
  by_cases c : n % 3 = 0
  · rw [if_pos c, if_pos c]
    refine ⟨rfl, .inr ⟨rfl, rfl, rfl⟩, ?_⟩
    unfold says
    simp
  · rw [if_neg c, if_neg c, wrap64_id (x := (L : Int) + 1) (by omega) (by omega), picked_eq _ _ (by omega) (by omega), Option.bind_some]
    have f0 := Int.emod_nonneg (wrap64 (Int.tdiv n 3)) (show (L : Int) + 1 ≠ 0 by omega)
    have f1 := Int.emod_lt_of_pos (wrap64 (Int.tdiv n 3)) (show 0 < (L : Int) + 1 by omega)
    generalize wrap64 (Int.tdiv n 3) % ((L : Int) + 1) = f at *
    rw [wrap64_id (x := (L : Int) - f) (by omega) (by omega), wrap64_id (x := (L : Int) - f + 1) (by omega) (by omega), picked_eq _ _ (by omega) (by omega), Option.bind_some]
    have g0 := Int.emod_nonneg (wrap64 (Int.tdiv n 601)) (show (L : Int) - f + 1 ≠ 0 by omega)
    have g1 := Int.emod_lt_of_pos (wrap64 (Int.tdiv n 601)) (show 0 < (L : Int) - f + 1 by omega)
    generalize wrap64 (Int.tdiv n 601) % ((L : Int) - f + 1) = g at *
    refine ⟨rfl, .inl ⟨rfl, rfl, f0, g0, by show f + g ≤ _; rw [hL]; omega⟩, ?_⟩
    unfold says
    simp only [List.append_nil, List.length_drop, List.length_take]
    omega
theorem flat_len4 {ps : List S42} (old : List Int) (hs : ∀ p : S42, p ∈ ps → (says old p).length ≤ 200) : (flat old ps).length ≤ 200 * ps.length := by
  induction ps with
  | nil => simp [flat]
  | cons p r ih =>
    have e : flat old (p :: r) = says old p ++ flat old r := by simp [flat]
    have h1 := hs p (List.mem_cons_self ..)
    have h2 := ih (fun q hq => hs q (List.mem_cons_of_mem _ hq))
    rw [e, List.length_append, List.length_cons]
    omega
theorem PatchParts : packthreadkeep_PatchParts.Pure := by
  intro l0 l1 l2 _ _ _ _ _ _ _ _ _
  obtain ⟨k, hk⟩ : ∃ k, 9000 ≤ k := ⟨9000, Nat.le_refl _⟩
  have e0 : (l0.take 200).length ≤ 200 := by rw [List.length_take]; omega
  obtain ⟨old, ho⟩ : ∃ o, l0.take 200 = o := ⟨_, rfl⟩
  have hO := octets_eq l0 200 200 rfl (by omega)
  rw [ho] at e0 hO
  have hmk : ∀ l : List Int, ∃ ps : List S42, ps.length = min l.length 4 ∧ (∀ j : Nat, j < ps.length → pieceF old.length (rd l (j : Int)) = some (rd_T42 ps (j : Int))) ∧ (∀ p, p ∈ ps → GoodP old p) ∧ (∀ p, p ∈ ps → (says old p).length ≤ 200) := by
    intro l
    refine ⟨(List.range (min l.length 4)).map (fun j : Nat => pieceP old.length (rd l (j : Int))), by simp, fun j hj => ?_, fun p hp => ?_, fun p hp => ?_⟩
    · rw [List.length_map, List.length_range] at hj
      rw [(piece_eq old e0 _).1, rd_T42, Int.toNat_natCast, List.getD_eq_getElem?_getD, List.getElem?_map, List.getElem?_range hj]
      rfl
    · obtain ⟨j, _, rfl⟩ := List.mem_map.1 hp
      exact (piece_eq old e0 _).2.1
    · obtain ⟨j, _, rfl⟩ := List.mem_map.1 hp
      exact (piece_eq old e0 _).2.2
  obtain ⟨ps, p1, p2, p3, p4⟩ := hmk l1
  obtain ⟨qs, q1, q2, q3, q4⟩ := hmk l2
  have h4 : ps.length ≤ 4 ∧ qs.length ≤ 4 := by omega
  have hpl := flat_len4 (ps := ps) old p4
  have hql := flat_len4 (ps := qs) old q4
  have hfa : flat old (ps ++ qs) = flat old ps ++ flat old qs := by simp [flat]
  have hz := patch_eq old (ps ++ qs) (by omega) (fun p hp => (List.mem_append.1 hp).elim (p3 p) (q3 p)) (by rw [List.length_append]; omega) (by rw [hfa, List.length_append]; omega) k hk
  have h1 := patch_eq [7] [(⟨true, 0, 1, []⟩ : S42)] (by decide) (fun p hp => by
    rw [List.mem_singleton] at hp
    subst hp
    exact .inl ⟨rfl, rfl, by decide, by decide, by decide⟩) (by decide) (by decide) k hk
  rw [hfa] at hz
  exact ⟨k, old, flat old ps, flat old qs, flat old ps ++ flat old qs, [7], ps, qs, hO, e0, p1, q1, p2, q2, patch_eq old ps (by omega) p3 (by omega) (by omega) k hk, patch_eq old qs (by omega) q3 (by omega) (by omega) k hk, hz, h1, sameb_eq k _ (by decide) (by show 1 < k; omega), sameb_eq k _ (by rw [List.length_append]; omega) (by rw [List.length_append]; omega), by omega, by omega⟩

end Go.Proofs.Ytblkhkipbcpaiaa.Pure
