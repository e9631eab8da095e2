/- Proved: for every input the law FetchStill answers true: what was not asked for changes nothing, and without it all else comes to the same. Condition: none (all numbers, all lists of integers). -/
import Derived.Test.YtlgehakaedokeaaPFetchStillx4
namespace Go.Proofs.Ytlgehakaedokeaa.Pure
open Go.RowKit Go.Proofs.Ytlgehakaedokeaa.PFetchStill Go.Proofs.YtlgehakaedokeaaW.PrintWords Go.Proofs.YtlgehakaedokeaaW.PrintLast
set_option linter.unusedVariables false

theorem wrap64_id {x : Int} (h0 : -9223372036854775808 ≤ x) (h1 : x ≤ 9223372036854775807) : wrap64 x = x := by unfold wrap64; omega

theorem picked_eq (a n : Int) (h0 : 0 < n) (h1 : n ≤ 1000000000000) : packthreadkeep_Picked.f a n = some (a % n) := by
  unfold packthreadkeep_Picked.f
  rw [if_neg (by omega)]
  have hm := Int.tmod_eq_emod (a := a) (b := n)
  have hlo := Int.emod_nonneg a (show n ≠ 0 by omega)
  have hhi := Int.emod_lt_of_pos a h0
  by_cases hc : 0 ≤ a ∨ n ∣ a
  · rw [if_pos hc] at hm
    have e : a.tmod n = a % n := by rw [hm]; simp
    rw [e, if_neg (by omega)]
  · rw [if_neg hc] at hm
    have e : a.tmod n = a % n - n := by rw [hm]; congr 1; omega
    rw [e, if_pos (by omega), wrap64_id (by omega) (by omega)]
    congr 1; omega

def Oct (l : List Int) : Prop := ∀ x ∈ l, 0 ≤ x ∧ x ≤ 255
theorem oct_of {l : List Int} (h : ∀ x ∈ l, (Lit.int .u8 x).wf = true) : Oct l := fun x hx => by
  have := h x hx
  simp [Lit.wf, IntKind.min, IntKind.max, IntKind.signed, IntKind.bits] at this
  omega
theorem Oct.take {l : List Int} (h : Oct l) (n : Nat) : Oct (l.take n) := fun x hx => h x (List.mem_of_mem_take hx)
theorem Oct.append {a b : List Int} (h : Oct a) (g : Oct b) : Oct (a ++ b) := fun x hx => by
  rcases List.mem_append.1 hx with h1 | h1
  · exact h x h1
  · exact g x h1
theorem Oct.set {l : List Int} (h : Oct l) (i : Nat) (v : Int) (h0 : 0 ≤ v) (h1 : v ≤ 255) : Oct (l.set i v) := fun x hx => by
  rcases List.mem_or_eq_of_mem_set hx with h2 | h2
  · exact h x h2
  · subst h2; exact ⟨h0, h1⟩
theorem Oct.getD {l : List Int} (h : Oct l) (i : Nat) : 0 ≤ l.getD i 0 ∧ l.getD i 0 ≤ 255 := by
  by_cases c : i < l.length
  · rw [List.getD_eq_getElem?_getD, List.getElem?_eq_getElem c]; exact h _ (List.getElem_mem c)
  · rw [List.getD_eq_getElem?_getD, List.getElem?_eq_none (by omega)]; simp

theorem stream_l0 (c : Int) (n : Nat) (hn : n ≤ 100000) : ∀ (m i k : Nat) (x : List Int), i + m = n → m < k → x.length = i → Oct x → ∃ y, packthreadkeep_Stream.l0 k c (n : Int) x (i : Int) = some y ∧ y.length = n ∧ Oct y := by
  intro m
  induction m with
  | zero =>
    intro i k x h1 h2 h3 h4
    obtain ⟨k, rfl⟩ : ∃ q, k = q + 1 := ⟨k - 1, by omega⟩
    exact ⟨x, by rw [packthreadkeep_Stream.l0, if_neg (by omega)], by omega, h4⟩
  | succ m ih =>
    intro i k x h1 h2 h3 h4
    obtain ⟨k, rfl⟩ : ∃ q, k = q + 1 := ⟨k - 1, by omega⟩
    rw [packthreadkeep_Stream.l0, if_pos (by omega), picked_eq _ _ (by decide) (by decide), Option.bind_some, if_pos (by omega), wrap64_id (x := (i : Int) + 1) (by omega) (by omega), show (i : Int) + 1 = ((i + 1 : Nat) : Int) by omega]
    refine ih (i + 1) k _ (by omega) (by omega) (by rw [List.length_append]; simp; omega) ?_
    refine h4.append ?_
    intro y hy
    rw [List.mem_singleton] at hy
    rw [hy]
    omega
theorem stream_eq (c : Int) (n : Nat) (hn : n ≤ 100000) (k : Nat) (hk : n < k) : ∃ y, packthreadkeep_Stream.f k c (n : Int) = some y ∧ y.length = n ∧ Oct y := by
  unfold packthreadkeep_Stream.f
  exact stream_l0 c n hn n 0 k [] (by omega) (by omega) rfl (fun x hx => by simp at hx)

theorem sameb_l0 (l : List Int) (hL : l.length ≤ 100000) : ∀ (m i k : Nat), i + m = l.length → m < k → packthreadkeep_sameBytes.l0 k l l (i : Int) = some true := by
  intro m
  induction m with
  | zero =>
    intro i k hi hk
    obtain ⟨k, rfl⟩ : ∃ q, k = q + 1 := ⟨k - 1, by omega⟩
    rw [packthreadkeep_sameBytes.l0, if_neg (by omega)]
  | succ m ih =>
    intro i k hi hk
    obtain ⟨k, rfl⟩ : ∃ q, k = q + 1 := ⟨k - 1, by omega⟩
    have hw1 : wrap64 ((i : Int) + 1) = ((i + 1 : Nat) : Int) := by rw [wrap64_id (by omega) (by omega)]; omega
    rw [packthreadkeep_sameBytes.l0, if_pos (by omega), if_pos (by omega), if_pos (by omega), if_pos rfl, hw1]
    exact ih (i + 1) k (by omega) (by omega)
theorem sameb_eq (k : Nat) (l : List Int) (hL : l.length ≤ 100000) (hk : l.length < k) : packthreadkeep_sameBytes.f k l l = some true := by
  unfold packthreadkeep_sameBytes.f
  rw [if_pos rfl]
  exact sameb_l0 l hL l.length 0 k (by omega) (by omega)

/-! fetch: what holds at each step, and the play as a plain walk along the list -/
structure InvB (st : FSt) : Prop where
  l1 : st.1.length ≤ 6
  fr : 0 ≤ st.2.1 ∧ st.2.1 ≤ 2200
  en : -1 ≤ st.2.2.1 ∧ st.2.2.1 ≤ 10000
  dl : st.2.2.2.length ≤ 20000
theorem onL_len (en : Int) : ∀ (k : Nat) (out : List S82) (front : Int) (ws : List S82), out.length ≤ 6 → (onL en k out front ws).1.length ≤ 6
  | 0, _, _, _, h => h
  | k + 1, out, front, ws, h => by
    rw [onL]
    split
    · exact onL_len en k _ _ _ (by rw [List.length_append]; simp; omega)
    · exact h
theorem onL_front (en : Int) : ∀ (k : Nat) (out : List S82) (front : Int) (ws : List S82), 0 ≤ front ∧ front ≤ 2200 → 0 ≤ (onL en k out front ws).2.1 ∧ (onL en k out front ws).2.1 ≤ 2200
  | 0, _, _, _, h => h
  | k + 1, out, front, ws, h => by
    rw [onL]
    split
    · exact onL_front en k _ _ _ (by omega)
    · exact h
theorem got_none {st : FSt} {a c : Int} {gd : List Int} (h : st.1.findIdx? (fun x => a == x.f0 && c == x.f1) = none) : gotF st a c gd = (st, (7, [], false, [])) := by
  unfold gotF
  rw [h]
theorem got_long {st : FSt} {a c : Int} {gd : List Int} {i : Nat} (h : st.1.findIdx? (fun x => a == x.f0 && c == x.f1) = some i) (hc : c < (gd.length : Int)) : gotF st a c gd = (st, (1, [], false, [])) := by
  unfold gotF
  rw [h]
  dsimp only
  rw [if_pos hc]
theorem got_some {st : FSt} {a c : Int} {gd : List Int} {i : Nat} (h : st.1.findIdx? (fun x => a == x.f0 && c == x.f1) = some i) (hc : ¬ c < (gd.length : Int)) {o : List S82} {fr : Int} {ws : List S82} (ho : onL (en1F st.2.2.1 a gd) 6 (st.1.eraseIdx i ++ moreF a c gd) st.2.1 (moreF a c gd) = (o, fr, ws)) {b : Bool} (hb : onB (en1F st.2.2.1 a gd) o = b) :
    gotF st a c gd = ((o, fr, en1F st.2.2.1 a gd, putF st.2.2.2 a.toNat gd), (0, ws, b, if b = true then (putF st.2.2.2 a.toNat gd).take (mn (en1F st.2.2.1 a gd) ((putF st.2.2.2 a.toNat gd).length : Int)).toNat else [])) := by
  unfold gotF
  rw [h]
  dsimp only
  rw [if_neg hc, ho]
  dsimp only
  rw [hb]
theorem more_len (a c : Int) (gd : List Int) : (moreF a c gd).length ≤ 1 := by unfold moreF; split <;> simp
theorem putF_len (d : List Int) (a : Nat) (gd : List Int) : (putF d a gd).length = max d.length (a + gd.length) := by
  unfold putF
  simp only [List.length_append, List.length_take, List.length_drop, List.length_replicate]
  omega
theorem invB_got {st : FSt} (h : InvB st) {a c : Int} {gd : List Int} (ha : 0 ≤ a ∧ a ≤ 10000) (hg : gd.length ≤ 10000) : InvB (gotF st a c gd).1 ∧ (gotF st a c gd).2.2.2.2.length ≤ 20000 := by
  rcases hfi : st.1.findIdx? (fun x => a == x.f0 && c == x.f1) with _ | i
  · rw [got_none hfi]; exact ⟨h, by simp⟩
  · by_cases hc : c < (gd.length : Int)
    · rw [got_long hfi hc]; exact ⟨h, by simp⟩
    · have hi : i < st.1.length := by
        rw [List.findIdx?_eq_some_iff_getElem] at hfi
        exact hfi.1
      obtain ⟨⟨o, fr, ws⟩, ho⟩ : ∃ y, onL (en1F st.2.2.1 a gd) 6 (st.1.eraseIdx i ++ moreF a c gd) st.2.1 (moreF a c gd) = y := ⟨_, rfl⟩
      have e1 := onL_len (en1F st.2.2.1 a gd) 6 (st.1.eraseIdx i ++ moreF a c gd) st.2.1 (moreF a c gd) (by
        have := more_len a c gd
        have := h.l1
        rw [List.length_append, List.length_eraseIdx, if_pos hi]; omega)
      have e2 := onL_front (en1F st.2.2.1 a gd) 6 (st.1.eraseIdx i ++ moreF a c gd) st.2.1 (moreF a c gd) h.fr
      rw [ho] at e1 e2
      have e3 : (putF st.2.2.2 a.toNat gd).length ≤ 20000 := by rw [putF_len]; have := h.dl; omega
      rw [got_some hfi hc ho rfl]
      refine ⟨⟨e1, e2, ?_, e3⟩, ?_⟩
      · show -1 ≤ en1F st.2.2.1 a gd ∧ en1F st.2.2.1 a gd ≤ 10000
        have := h.en
        unfold en1F
        split <;> omega
      · show (if _ then _ else _ : List Int).length ≤ 20000
        split
        · rw [List.length_take]; omega
        · simp
def GB (g : S65) : Prop := (0 ≤ g.f0 ∧ g.f0 ≤ 10000) ∧ (-10000 ≤ g.f1 ∧ g.f1 ≤ 10000) ∧ g.f2.length ≤ 10000
theorem okG_of {st : FSt} (h : InvB st) {g : S65} (hg : GB g) : okG st g :=
  ⟨by have := h.l1; omega, h.dl, hg.2.2, ⟨h.fr.1, by have := h.fr.2; omega⟩, ⟨h.en.1, by have := h.en.2; omega⟩, hg.1, hg.2.1⟩
def gsOut : FSt → List S65 → List S71
  | _, [] => []
  | st, g :: gs => fnx (gotF st g.f0 g.f1 g.f2).2 :: gsOut (gotF st g.f0 g.f1 g.f2).1 gs
theorem play_is : ∀ (gs : List S65) (st : FSt) (acc : List S71), InvB st → (∀ g, g ∈ gs → GB g) → playL st gs acc = some (acc ++ gsOut st gs)
  | [], st, acc, _, _ => by rw [playL, gsOut, List.append_nil]
  | g :: gs, st, acc, h, hg => by
    have h1 := hg g (List.mem_cons_self ..)
    rw [playL, if_pos (okG_of h h1), play_is gs _ _ (invB_got h h1.1 h1.2.2).1 (fun x hx => hg x (List.mem_cons_of_mem _ hx)), gsOut, List.append_assoc]
    rfl
theorem gsOut_len : ∀ (gs : List S65) (st : FSt), (gsOut st gs).length = gs.length
  | [], _ => rfl
  | g :: gs, st => by rw [gsOut, List.length_cons, gsOut_len gs, List.length_cons]
def w0s : List S82 := [⟨0, 100⟩, ⟨100, 100⟩, ⟨200, 100⟩, ⟨300, 100⟩, ⟨400, 100⟩, ⟨500, 100⟩]
theorem on0 : onL (-1) 6 [] 0 [] = (w0s, 600, w0s) := by
  simp [onL, w0s]
theorem st0_is : st0 = (w0s, 600, -1, []) := by unfold st0; rw [on0]
theorem invB0 : InvB st0 := by
  rw [st0_is]
  exact ⟨by decide, by decide, by decide, by decide⟩
theorem fplay_eq (gs : List S65) (hl : gs.length ≤ 300) (hg : ∀ g, g ∈ gs → GB g) : fetch_Play.f gs = some (⟨0, w0s, false, []⟩ :: gsOut st0 gs, 0) := by
  unfold fetch_Play.f
  rw [if_neg (by omega), on0, play_is gs _ _ invB0 hg]
  rfl

structure InvM (st : FSt) : Prop where
  ws : ∀ w, w ∈ st.1 → w.f1 ≤ 100 ∧ (w.f1 = 100 → w.f0 % 100 = 0)
  fr : st.2.1 % 100 = 0
theorem onL_M (en : Int) : ∀ (k : Nat) (out : List S82) (front : Int) (ws : List S82), (∀ w, w ∈ out → w.f1 ≤ 100 ∧ (w.f1 = 100 → w.f0 % 100 = 0)) → front % 100 = 0 → (∀ w, w ∈ (onL en k out front ws).1 → w.f1 ≤ 100 ∧ (w.f1 = 100 → w.f0 % 100 = 0)) ∧ (onL en k out front ws).2.1 % 100 = 0
  | 0, _, _, _, h, hf => ⟨h, hf⟩
  | k + 1, out, front, ws, h, hf => by
    rw [onL]
    split
    · refine onL_M en k _ _ _ (fun w hw => ?_) (by omega)
      rw [List.mem_append, List.mem_singleton] at hw
      rcases hw with hw | rfl
      · exact h w hw
      · exact ⟨by show (100 : Int) ≤ 100; omega, fun _ => hf⟩
    · exact ⟨h, hf⟩
theorem invM_got {st : FSt} (h : InvM st) {a c : Int} {gd : List Int} (hc : c ≤ 100) : InvM (gotF st a c gd).1 := by
  rcases hfi : st.1.findIdx? (fun x => a == x.f0 && c == x.f1) with _ | i
  · rw [got_none hfi]; exact h
  · by_cases hcc : c < (gd.length : Int)
    · rw [got_long hfi hcc]; exact h
    · obtain ⟨⟨o, fr, ws⟩, ho⟩ : ∃ y, onL (en1F st.2.2.1 a gd) 6 (st.1.eraseIdx i ++ moreF a c gd) st.2.1 (moreF a c gd) = y := ⟨_, rfl⟩
      have e1 := onL_M (en1F st.2.2.1 a gd) 6 (st.1.eraseIdx i ++ moreF a c gd) st.2.1 (moreF a c gd) (by
        intro w hw
        rcases List.mem_append.1 hw with hw | hw
        · exact h.ws w (List.mem_of_mem_eraseIdx hw)
        · unfold moreF at hw
          split at hw
          · rw [List.mem_singleton] at hw
            subst hw
            dsimp only
            exact ⟨by omega, by omega⟩
          · cases hw) h.fr
      rw [ho] at e1
      rw [got_some hfi hcc ho rfl]
      exact ⟨e1.1, e1.2⟩
theorem odd_none {st : FSt} (h : InvM st) {a : Int} (h1 : 1 ≤ a) (h2 : a ≤ 99) : gotF st a 100 [] = (st, (7, [], false, [])) := by
  refine got_none (List.findIdx?_eq_none_iff.2 fun w hw => ?_)
  have h3 := h.ws w hw
  rw [Bool.and_eq_false_iff]
  by_cases e : (100 : Int) = w.f1
  · left
    rw [beq_eq_false_iff_ne]
    have := h3.2 e.symm
    omega
  · right
    rw [beq_eq_false_iff_ne]
    exact e
theorem got_same {st : FSt} {a c : Int} {gd : List Int} (h : (gotF st a c gd).2.1 ≠ 0) : (gotF st a c gd).1 = st := by
  rcases hfi : st.1.findIdx? (fun x => a == x.f0 && c == x.f1) with _ | i
  · rw [got_none hfi]
  · by_cases hc : c < (gd.length : Int)
    · rw [got_long hfi hc]
    · obtain ⟨⟨o, fr, ws⟩, ho⟩ : ∃ y, onL (en1F st.2.2.1 a gd) 6 (st.1.eraseIdx i ++ moreF a c gd) st.2.1 (moreF a c gd) = y := ⟨_, rfl⟩
      rw [got_some hfi hc ho rfl] at h
      exact absurd rfl h
def oddG (o : Int) : S65 := ⟨1 + o % 99, 100, []⟩
def odd7 : S71 := ⟨7, [], false, []⟩
def pt2 : List Int → List (S65 × S71)
  | [] => []
  | o :: _ => [(oddG o, odd7)]
def pt1 (st : FSt) (g : S65) : List (S65 × S71) := if (gotF st g.f0 g.f1 g.f2).2.1 = 0 then [(g, fnx (gotF st g.f0 g.f1 g.f2).2)] else []
def mg : FSt → List S65 → List Int → List (S65 × S71)
  | _, [], _ => []
  | st, g :: gs, od => pt1 st g ++ (pt2 od ++ mg (gotF st g.f0 g.f1 g.f2).1 gs od.tail)
def GA (g : S65) : Prop := (0 ≤ g.f0 ∧ g.f0 ≤ 10000) ∧ g.f1 = 100 ∧ g.f2.length ≤ 100
theorem GA.gb {g : S65} (h : GA g) : GB g := ⟨h.1, by have := h.2.1; omega, by have := h.2.2; omega⟩
theorem oddG_gb (o : Int) : GB (oddG o) := by
  unfold oddG GB
  dsimp only
  have := Int.emod_nonneg o (show (99 : Int) ≠ 0 by decide)
  have := Int.emod_lt_of_pos o (show (0 : Int) < 99 by decide)
  refine ⟨by omega, by omega, by simp⟩
theorem odd_out {st : FSt} (h : InvM st) (o : Int) (gs : List S65) : gsOut st (oddG o :: gs) = odd7 :: gsOut st gs := by
  have := Int.emod_nonneg o (show (99 : Int) ≠ 0 by decide)
  have := Int.emod_lt_of_pos o (show (0 : Int) < 99 by decide)
  rw [gsOut]
  rw [show gotF st (oddG o).f0 (oddG o).f1 (oddG o).f2 = (st, (7, [], false, [])) from odd_none h (by show 1 ≤ 1 + o % 99; omega) (by show 1 + o % 99 ≤ 99; omega)]
  rfl
theorem mg_out : ∀ (gs : List S65) (st : FSt) (od : List Int), InvM st → (∀ g, g ∈ gs → GA g) → gsOut st ((mg st gs od).map Prod.fst) = (mg st gs od).map Prod.snd
  | [], _, _, _, _ => rfl
  | g :: gs, st, od, h, hg => by
    have h1 := hg g (List.mem_cons_self ..)
    have hm := invM_got h (a := g.f0) (c := g.f1) (gd := g.f2) (by have := h1.2.1; omega)
    have ih := mg_out gs (gotF st g.f0 g.f1 g.f2).1 od.tail hm (fun x hx => hg x (List.mem_cons_of_mem _ hx))
    have ih2 : gsOut (gotF st g.f0 g.f1 g.f2).1 ((pt2 od ++ mg (gotF st g.f0 g.f1 g.f2).1 gs od.tail).map Prod.fst) = (pt2 od ++ mg (gotF st g.f0 g.f1 g.f2).1 gs od.tail).map Prod.snd := by
      cases od with
      | nil => exact ih
      | cons o t => 
        rw [pt2, List.map_append, List.map_append, List.map_cons, List.map_nil, List.map_cons, List.map_nil, List.singleton_append, List.singleton_append, odd_out hm, ih]
    rw [mg, pt1]
    by_cases hc : (gotF st g.f0 g.f1 g.f2).2.1 = 0
    · rw [if_pos hc, List.singleton_append, List.map_cons, List.map_cons, gsOut, ih2]
    · rw [if_neg hc, List.nil_append]
      rw [got_same hc] at ih2 ⊢
      exact ih2
theorem mg_len : ∀ (gs : List S65) (st : FSt) (od : List Int), (mg st gs od).length ≤ 2 * gs.length
  | [], _, _ => by simp [mg]
  | g :: gs, st, od => by
    have ih := mg_len gs (gotF st g.f0 g.f1 g.f2).1 od.tail
    rw [mg, List.length_append, List.length_append, List.length_cons]
    have e1 : (pt1 st g).length ≤ 1 := by unfold pt1; split <;> simp
    have e2 : (pt2 od).length ≤ 1 := by cases od <;> simp [pt2]
    omega
theorem mg_gb : ∀ (gs : List S65) (st : FSt) (od : List Int), (∀ g, g ∈ gs → GA g) → ∀ x, x ∈ mg st gs od → GB x.1
  | [], _, _, _, x, hx => by cases hx
  | g :: gs, st, od, hg, x, hx => by
    rw [mg] at hx
    rcases List.mem_append.1 hx with hx | hx
    · unfold pt1 at hx
      split at hx
      · rw [List.mem_singleton] at hx; rw [hx]; exact (hg g (List.mem_cons_self ..)).gb
      · cases hx
    · rcases List.mem_append.1 hx with hx | hx
      · cases od with
        | nil => cases hx
        | cons o t => rw [pt2, List.mem_singleton] at hx; rw [hx]; exact oddG_gb o
      · exact mg_gb gs _ _ (fun y hy => hg y (List.mem_cons_of_mem _ hy)) x hx
theorem out_small : ∀ (gs : List S65) (st : FSt), InvB st → (∀ g, g ∈ gs → GB g) → ∀ x, x ∈ gsOut st gs → x.f3.length ≤ 20000
  | [], _, _, _, x, hx => by cases hx
  | g :: gs, st, h, hg, x, hx => by
    have h1 := hg g (List.mem_cons_self ..)
    have h2 := invB_got h (c := g.f1) h1.1 h1.2.2
    rw [gsOut] at hx
    rcases List.mem_cons.1 hx with rfl | hx
    · exact h2.2
    · exact out_small gs _ h2.1 (fun y hy => hg y (List.mem_cons_of_mem _ hy)) x hx
/-- what follows once the row of gots is whole -/
theorem l2_true (x16 : List S65) (x17 : List S71) (y0 : S71) (hl : x16.length = x17.length) (h3 : x17.length ≤ 1000) (hs : ∀ x, x ∈ x17 → x.f3.length ≤ 20000) : ∀ (m i k : Nat), i + m = x16.length → 30000 + 2 * m < k → packthreadkeep_FetchStill.l2 k x16 x17 (y0 :: x17) (i : Int) = some true := by
  intro m
  induction m with
  | zero =>
    intro i k hi hk
    obtain ⟨k, rfl⟩ : ∃ q, k = q + 1 := ⟨k - 1, by omega⟩
    rw [packthreadkeep_FetchStill.l2, if_neg (by omega)]
  | succ m ih =>
    intro i k hi hk
    obtain ⟨k, rfl⟩ : ∃ q, k = q + 1 := ⟨k - 1, by omega⟩
    have hw1 : wrap64 ((i : Int) + 1) = ((i + 1 : Nat) : Int) := by rw [wrap64_id (by omega) (by omega)]; omega
    have hlt : i < x17.length := by omega
    have e1 : rd_T71 (y0 :: x17) ((i + 1 : Nat) : Int) = x17[i] := by
      rw [rd_T71, Int.toNat_natCast, List.getD_eq_getElem?_getD, List.getElem?_cons_succ, List.getElem?_eq_getElem hlt]; rfl
    have e2 : rd_T71 x17 (i : Int) = x17[i] := by
      rw [rd_T71, Int.toNat_natCast, List.getD_eq_getElem?_getD, List.getElem?_eq_getElem hlt]; rfl
    rw [packthreadkeep_FetchStill.l2, if_pos (by omega), hw1, if_pos (by omega), if_pos (by rw [List.length_cons]; omega), if_pos (by omega), if_pos (by omega), e1, e2, if_pos rfl, if_neg (by simp), sameb_eq k _ (by have := hs _ (List.getElem_mem hlt); omega) (by have := hs _ (List.getElem_mem hlt); omega), Option.bind_some, if_pos rfl]
    obtain ⟨k, rfl⟩ : ∃ q, k = q + 1 := ⟨k - 1, by omega⟩
    rw [packthreadkeep_FetchStill.j7, if_neg (by simp), hw1]
    exact ih (i + 1) k (by omega) (by omega)
theorem l1_end (x3 : List Int) (x10 : List S65) (x14 : List S71) (b : List S65) (want : List S71) (hb : b.length ≤ 200) (hg : ∀ g, g ∈ b → GB g) (he : gsOut st0 b = want) (k : Nat) (hk : 31000 < k) : packthreadkeep_FetchStill.l1 k x3 x10 x14 b want (x10.length : Int) = some true := by
  obtain ⟨k, rfl⟩ : ∃ q, k = q + 2 := ⟨k - 2, by omega⟩
  have hl : b.length = want.length := by rw [← he, gsOut_len]
  rw [packthreadkeep_FetchStill.l1, if_neg (by omega), fplay_eq b (by omega) hg, Option.bind_some]
  dsimp only
  rw [if_pos rfl, he, packthreadkeep_FetchStill.j5, if_neg (by rw [List.length_cons, hl, wrap64_id (by omega) (by omega)]; simp)]
  exact l2_true b want _ hl (by omega) (fun x hx => out_small b st0 invB0 hg x (by rw [he]; exact hx)) b.length 0 k (by omega) (by omega)
theorem l1_go (x3 : List Int) (h3 : x3.length ≤ 9223372036854775807) (a : List S65) (ha : a.length ≤ 60) (y0 : S71) (hA : ∀ g, g ∈ a → GA g) : ∀ (m i k : Nat) (st : FSt) (pre : List (S65 × S71)), i + m = a.length → 31000 + 3 * m < k → InvM st → (gsOut st0 a).drop i = gsOut st (a.drop i) → pre.length ≤ 2 * i → (∀ x, x ∈ pre → GB x.1) → (gsOut st0 ((pre ++ mg st (a.drop i) (x3.drop i)).map Prod.fst) = (pre ++ mg st (a.drop i) (x3.drop i)).map Prod.snd) → packthreadkeep_FetchStill.l1 k x3 a (y0 :: gsOut st0 a) (pre.map Prod.fst) (pre.map Prod.snd) (i : Int) = some true := by
  intro m
  induction m with
  | zero =>
    intro i k st pre hi hk hM ho hp hgb he
    obtain rfl : i = a.length := by omega
    rw [List.drop_of_length_le (Nat.le_refl _), mg, List.append_nil] at he
    refine l1_end x3 a _ _ _ (by rw [List.length_map]; omega) ?_ he k (by omega)
    intro g hg
    obtain ⟨x, hx, rfl⟩ := List.mem_map.1 hg
    exact hgb x hx
  | succ m ih =>
    intro i k st pre hi hk hM ho hp hgb he
    obtain ⟨k, rfl⟩ : ∃ q, k = q + 3 := ⟨k - 3, by omega⟩
    have hlt : i < a.length := by omega
    have hw1 : wrap64 ((i : Int) + 1) = ((i + 1 : Nat) : Int) := by rw [wrap64_id (by omega) (by omega)]; omega
    rw [List.drop_eq_getElem_cons hlt] at ho he
    obtain ⟨g, hg⟩ : ∃ g, a[i] = g := ⟨_, rfl⟩
    have hGA := hA g (by rw [← hg]; exact List.getElem_mem hlt)
    rw [hg] at ho he
    have hol : i < (gsOut st0 a).length := by rw [gsOut_len]; exact hlt
    have ho' := ho
    rw [List.drop_eq_getElem_cons hol, gsOut] at ho'
    injection ho' with ho1 ho2
    have e1 : rd_T71 (y0 :: gsOut st0 a) ((i + 1 : Nat) : Int) = fnx (gotF st g.f0 g.f1 g.f2).2 := by
      rw [rd_T71, Int.toNat_natCast, List.getD_eq_getElem?_getD, List.getElem?_cons_succ, List.getElem?_eq_getElem hol, ← ho1]; rfl
    have e2 : rd_T65 a (i : Int) = g := by
      rw [rd_T65, Int.toNat_natCast, List.getD_eq_getElem?_getD, List.getElem?_eq_getElem hlt, ← hg]; rfl
    have hM1 := invM_got hM (a := g.f0) (c := g.f1) (gd := g.f2) (by have := hGA.2.1; omega)
    rw [mg] at he
    have hrest : ∀ p1, p1 = pt1 st g → packthreadkeep_FetchStill.j4 (k + 2) x3 a (y0 :: gsOut st0 a) ((pre ++ p1).map Prod.fst) ((pre ++ p1).map Prod.snd) (i : Int) = some true := by
      intro p1 hp1
      have l1 : p1.length ≤ 1 := by rw [hp1]; unfold pt1; split <;> simp
      have g1 : ∀ x, x ∈ p1 → GB x.1 := by
        intro x hx
        rw [hp1] at hx
        unfold pt1 at hx
        split at hx
        · rw [List.mem_singleton] at hx; rw [hx]; exact hGA.gb
        · cases hx
      rw [packthreadkeep_FetchStill.j4]
      by_cases hx3 : i < x3.length
      · have e3 : rd x3 (i : Int) = x3[i] := by
          rw [rd, Int.toNat_natCast, List.getD_eq_getElem?_getD, List.getElem?_eq_getElem hx3]; rfl
        have := Int.emod_nonneg x3[i] (show (99 : Int) ≠ 0 by decide)
        have := Int.emod_lt_of_pos x3[i] (show (0 : Int) < 99 by decide)
        rw [if_pos (by omega), if_pos (by omega), picked_eq _ _ (by decide) (by decide), Option.bind_some, if_pos (by rw [List.length_map, List.length_append]; omega), if_pos (by rw [List.length_map, List.length_append]; omega), e3, wrap64_id (by omega) (by omega), hw1]
        have h9 : (pre ++ p1).map Prod.fst ++ [(⟨1 + x3[i] % 99, 100, []⟩ : S65)] = (pre ++ p1 ++ [(oddG x3[i], odd7)]).map Prod.fst := by rw [List.map_append (l₁ := pre ++ p1)]; rfl
        have h8 : (pre ++ p1).map Prod.snd ++ [(⟨7, [], false, []⟩ : S71)] = (pre ++ p1 ++ [(oddG x3[i], odd7)]).map Prod.snd := by rw [List.map_append (l₁ := pre ++ p1)]; rfl
        rw [h9, h8]
        refine ih (i + 1) (k + 1) (gotF st g.f0 g.f1 g.f2).1 _ (by omega) (by omega) hM1 ho2 (by rw [List.length_append, List.length_append]; simp; omega) ?_ ?_
        · intro x hx
          rw [List.mem_append, List.mem_append, List.mem_singleton] at hx
          rcases hx with (hx | hx) | rfl
          · exact hgb x hx
          · exact g1 x hx
          · exact oddG_gb _
        · rw [List.drop_eq_getElem_cons hx3, pt2, List.tail_cons, ← hp1] at he
          rw [List.append_assoc, List.append_assoc]
          exact he
      · rw [if_neg (by omega), hw1]
        refine ih (i + 1) (k + 1) (gotF st g.f0 g.f1 g.f2).1 _ (by omega) (by omega) hM1 ho2 (by rw [List.length_append]; omega) ?_ ?_
        · intro x hx
          rcases List.mem_append.1 hx with hx | hx
          · exact hgb x hx
          · exact g1 x hx
        · have d0 : x3.drop i = [] := List.drop_of_length_le (by omega)
          have d1 : x3.drop (i + 1) = [] := List.drop_of_length_le (by omega)
          rw [d0, pt2, List.nil_append, List.tail_nil, ← hp1] at he
          rw [d1, List.append_assoc]
          exact he
    rw [packthreadkeep_FetchStill.l1, if_pos (by omega), hw1, if_pos (by omega), if_pos (by rw [List.length_cons, gsOut_len]; omega), e1]
    by_cases hc : (fnx (gotF st g.f0 g.f1 g.f2).2).f0 = 0
    · have hc' : (gotF st g.f0 g.f1 g.f2).2.1 = 0 := hc
      rw [if_pos hc, if_pos (by omega), if_pos (by rw [List.length_map]; omega), if_pos (by rw [List.length_map]; omega), e2]
      have := hrest _ rfl
      rw [pt1, if_pos hc', List.map_append, List.map_append] at this
      exact this
    · have hc' : ¬ (gotF st g.f0 g.f1 g.f2).2.1 = 0 := hc
      rw [if_neg hc]
      have := hrest _ rfl
      rw [pt1, if_neg hc', List.append_nil] at this
      exact this
theorem j1_end (x2 x3 x9 : List Int) (h3 : x3.length ≤ 9223372036854775807) (a : List S65) (ha : a.length ≤ 60) (hA : ∀ g, g ∈ a → GA g) (i : Int) (k : Nat) (hk : 32000 < k) : packthreadkeep_FetchStill.j1 k x2 x3 x9 a i false = some true := by
  obtain ⟨k, rfl⟩ : ∃ q, k = q + 2 := ⟨k - 2, by omega⟩
  rw [packthreadkeep_FetchStill.j1, if_neg (by simp), if_pos (by rw [List.length_nil]; omega), List.nil_append, fplay_eq a (by omega) (fun g hg => (hA g hg).gb), Option.bind_some]
  dsimp only
  rw [if_pos rfl, if_pos (by rw [List.length_cons, gsOut_len, wrap64_id (by omega) (by omega)]; omega), if_pos (by rw [List.length_cons]; omega), packthreadkeep_FetchStill.j2]
  rw [show ((((rd_T71 ((⟨0, w0s, false, []⟩ : S71) :: gsOut st0 a) 0).f1).length : Int) != 6) = false from rfl, if_neg (by simp)]
  have hM0 : InvM st0 := by
    rw [st0_is]
    refine ⟨fun w hw => ?_, by decide⟩
    simp only [w0s, List.mem_cons, List.not_mem_nil, or_false] at hw
    rcases hw with rfl | rfl | rfl | rfl | rfl | rfl <;> exact ⟨by decide, fun _ => by decide⟩
  exact l1_go x3 h3 a ha _ hA a.length 0 k st0 [] (by omega) (by omega) hM0 rfl (by simp) (fun x hx => by cases hx) (by rw [List.nil_append]; exact mg_out a st0 x3 hM0 hA)
theorem l0_go (x2 x3 x9 : List Int) (h2 : x2.length ≤ 9223372036854775807) (h3 : x3.length ≤ 9223372036854775807) (h9 : x9.length ≤ 600) : ∀ (m i k : Nat) (a : List S65), i + m = min x2.length 60 → 33000 + 3 * m < k → a.length = i → (∀ g, g ∈ a → GA g) → packthreadkeep_FetchStill.l0 k x2 x3 x9 a (i : Int) = some true := by
  intro m
  induction m with
  | zero =>
    intro i k a hi hk hl hA
    obtain ⟨k, rfl⟩ : ∃ q, k = q + 1 := ⟨k - 1, by omega⟩
    rw [packthreadkeep_FetchStill.l0]
    split
    · rw [decide_eq_false (by omega)]
      exact j1_end x2 x3 x9 h3 a (by omega) hA _ k (by omega)
    · exact j1_end x2 x3 x9 h3 a (by omega) hA _ k (by omega)
  | succ m ih =>
    intro i k a hi hk hl hA
    obtain ⟨k, rfl⟩ : ∃ q, k = q + 3 := ⟨k - 3, by omega⟩
    have hw1 : wrap64 ((i : Int) + 1) = ((i + 1 : Nat) : Int) := by rw [wrap64_id (by omega) (by omega)]; omega
    have p0 := Int.emod_nonneg (rd x2 (i : Int)) (show (9 : Int) ≠ 0 by decide)
    have p1 := Int.emod_lt_of_pos (rd x2 (i : Int)) (show (0 : Int) < 9 by decide)
    obtain ⟨p, hp⟩ : ∃ p, rd x2 (i : Int) % 9 = p := ⟨_, rfl⟩
    have hj2 : ∀ d : List Int, d.length ≤ 100 → (if a.length < 3518437208883 then (packthreadkeep_FetchStill.l0 (k + 1) x2 x3 x9 (a ++ [(⟨p * 100, 100, d⟩ : S65)]) (wrap64 ((i : Int) + 1))) else none) = some true := by
      intro d hd
      rw [if_pos (by omega), hw1]
      refine ih (i + 1) (k + 1) _ (by omega) (by omega) (by rw [List.length_append]; simp; omega) ?_
      intro g hg
      rcases List.mem_append.1 hg with hg | hg
      · exact hA g hg
      · rw [List.mem_singleton] at hg
        rw [hg]
        exact ⟨by dsimp only; omega, rfl, hd⟩
    rw [packthreadkeep_FetchStill.l0, if_pos (by omega), decide_eq_true (by omega), packthreadkeep_FetchStill.j1, if_pos rfl, if_pos (by omega), if_pos (by omega), picked_eq _ _ (by decide) (by decide), Option.bind_some, hp, wrap64_id (x := p * 100) (by omega) (by omega)]
    by_cases hc : p * 100 < (x9.length : Int)
    · rw [if_pos hc, if_pos (by omega), wrap64_id (x := p * 100 + 100) (by omega) (by omega)]
      have hm1 : mn (p * 100 + 100) (x9.length : Int) ≤ (x9.length : Int) ∧ mn (p * 100 + 100) (x9.length : Int) ≤ p * 100 + 100 ∧ p * 100 ≤ mn (p * 100 + 100) (x9.length : Int) := by
        unfold mn
        split <;> omega
      obtain ⟨q, hq⟩ : ∃ q, mn (p * 100 + 100) (x9.length : Int) = q := ⟨_, rfl⟩
      rw [hq] at hm1 ⊢
      rw [if_pos hm1.2.2, if_pos hm1.1, Option.bind_some, if_pos (by rw [List.length_drop, List.length_take, List.length_nil]; omega), List.nil_append]
      exact hj2 _ (by rw [List.length_drop, List.length_take]; omega)
    · rw [if_neg hc]
      exact hj2 [] (by simp)
theorem FetchStill : packthreadkeep_FetchStill.Pure := by
  intro a0 a1 l2 l3 _ _ hm2 _ _ hm3 _ _
  obtain ⟨k, hk⟩ : ∃ k, 40000 ≤ k := ⟨40000, Nat.le_refl _⟩
  refine ⟨k, ?_⟩
  unfold packthreadkeep_FetchStill.f
  have p0 := Int.emod_nonneg a1 (show (600 : Int) ≠ 0 by decide)
  have p1 := Int.emod_lt_of_pos a1 (show (0 : Int) < 600 by decide)
  obtain ⟨n, hn⟩ : ∃ n : Nat, (n : Int) = a1 % 600 := ⟨(a1 % 600).toNat, by omega⟩
  rw [picked_eq _ _ (by decide) (by decide), Option.bind_some, ← hn]
  obtain ⟨y, hy, hyl, _⟩ := stream_eq a0 n (by omega) k (by omega)
  rw [hy, Option.bind_some]
  unfold maxLen at hm2 hm3
  exact l0_go l2 l3 y hm2 hm3 (by omega) (min l2.length 60) 0 k [] (by omega) (by omega) rfl (fun g hg => by cases hg)

end Go.Proofs.Ytlgehakaedokeaa.Pure
