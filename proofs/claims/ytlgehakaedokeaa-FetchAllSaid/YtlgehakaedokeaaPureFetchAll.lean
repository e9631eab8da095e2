/- Proved: for every input the law FetchAll answers true: the file is the file, in whatever order it comes, and in whatever pieces; no bytes are asked for twice at a time, and never more at once than there may be. Condition: none (all numbers, all lists of integers). -/
import Derived.Test.YtlgehakaedokeaaPFetchAllx4
namespace Go.Proofs.Ytlgehakaedokeaa.Pure
open Go.RowKit Go.Proofs.Ytlgehakaedokeaa.PFetchAll Go.Proofs.YtlgehakaedokeaaW.PrintWords Go.Proofs.YtlgehakaedokeaaW.PrintLast
set_option linter.unusedVariables false

theorem wrap64_id {x : Int} (h0 : -9223372036854775808 ≤ x) (h1 : x ≤ 9223372036854775807) : wrap64 x = x := by unfold wrap64; omega

theorem picked_eq (a n : Int) (h0 : 0 < n) (h1 : n ≤ 1000000000000) : packthreadkeep_Picked.f a n = some (a % n) := by
  unfold packthreadkeep_Picked.f
  rw [if_neg (by omega)]
  have hm := Int.tmod_eq_emod (a := a) (b := n)
  have hlo := Int.emod_nonneg a (show n ≠ 0 by omega)
  have hhi := Int.emod_lt_of_pos a h0
  by_cases hc : 0 ≤ a ∨ n ∣ a
  · rw [if_pos hc] at hm
    have e : a.tmod n = a % n := by rw [hm]; simp
    rw [e, if_neg (by omega)]
  · rw [if_neg hc] at hm
    have e : a.tmod n = a % n - n := by rw [hm]; congr 1; omega
    rw [e, if_pos (by omega), wrap64_id (by omega) (by omega)]
    congr 1; omega

def Oct (l : List Int) : Prop := ∀ x ∈ l, 0 ≤ x ∧ x ≤ 255
theorem oct_of {l : List Int} (h : ∀ x ∈ l, (Lit.int .u8 x).wf = true) : Oct l := fun x hx => by
  have := h x hx
  simp [Lit.wf, IntKind.min, IntKind.max, IntKind.signed, IntKind.bits] at this
  omega
theorem Oct.take {l : List Int} (h : Oct l) (n : Nat) : Oct (l.take n) := fun x hx => h x (List.mem_of_mem_take hx)
theorem Oct.append {a b : List Int} (h : Oct a) (g : Oct b) : Oct (a ++ b) := fun x hx => by
  rcases List.mem_append.1 hx with h1 | h1
  · exact h x h1
  · exact g x h1
theorem Oct.set {l : List Int} (h : Oct l) (i : Nat) (v : Int) (h0 : 0 ≤ v) (h1 : v ≤ 255) : Oct (l.set i v) := fun x hx => by
  rcases List.mem_or_eq_of_mem_set hx with h2 | h2
  · exact h x h2
  · subst h2; exact ⟨h0, h1⟩
theorem Oct.getD {l : List Int} (h : Oct l) (i : Nat) : 0 ≤ l.getD i 0 ∧ l.getD i 0 ≤ 255 := by
  by_cases c : i < l.length
  · rw [List.getD_eq_getElem?_getD, List.getElem?_eq_getElem c]; exact h _ (List.getElem_mem c)
  · rw [List.getD_eq_getElem?_getD, List.getElem?_eq_none (by omega)]; simp

theorem stream_l0 (c : Int) (n : Nat) (hn : n ≤ 100000) : ∀ (m i k : Nat) (x : List Int), i + m = n → m < k → x.length = i → Oct x → ∃ y, packthreadkeep_Stream.l0 k c (n : Int) x (i : Int) = some y ∧ y.length = n ∧ Oct y := by
  intro m
  induction m with
  | zero =>
    intro i k x h1 h2 h3 h4
    obtain ⟨k, rfl⟩ : ∃ q, k = q + 1 := ⟨k - 1, by omega⟩
    exact ⟨x, by rw [packthreadkeep_Stream.l0, if_neg (by omega)], by omega, h4⟩
  | succ m ih =>
    intro i k x h1 h2 h3 h4
    obtain ⟨k, rfl⟩ : ∃ q, k = q + 1 := ⟨k - 1, by omega⟩
    rw [packthreadkeep_Stream.l0, if_pos (by omega), picked_eq _ _ (by decide) (by decide), Option.bind_some, if_pos (by omega), wrap64_id (x := (i : Int) + 1) (by omega) (by omega), show (i : Int) + 1 = ((i + 1 : Nat) : Int) by omega]
    refine ih (i + 1) k _ (by omega) (by omega) (by rw [List.length_append]; simp; omega) ?_
    refine h4.append ?_
    intro y hy
    rw [List.mem_singleton] at hy
    rw [hy]
    omega
theorem stream_eq (c : Int) (n : Nat) (hn : n ≤ 100000) (k : Nat) (hk : n < k) : ∃ y, packthreadkeep_Stream.f k c (n : Int) = some y ∧ y.length = n ∧ Oct y := by
  unfold packthreadkeep_Stream.f
  exact stream_l0 c n hn n 0 k [] (by omega) (by omega) rfl (fun x hx => by simp at hx)

theorem sameb_l0 (l : List Int) (hL : l.length ≤ 100000) : ∀ (m i k : Nat), i + m = l.length → m < k → packthreadkeep_sameBytes.l0 k l l (i : Int) = some true := by
  intro m
  induction m with
  | zero =>
    intro i k hi hk
    obtain ⟨k, rfl⟩ : ∃ q, k = q + 1 := ⟨k - 1, by omega⟩
    rw [packthreadkeep_sameBytes.l0, if_neg (by omega)]
  | succ m ih =>
    intro i k hi hk
    obtain ⟨k, rfl⟩ : ∃ q, k = q + 1 := ⟨k - 1, by omega⟩
    have hw1 : wrap64 ((i : Int) + 1) = ((i + 1 : Nat) : Int) := by rw [wrap64_id (by omega) (by omega)]; omega
    rw [packthreadkeep_sameBytes.l0, if_pos (by omega), if_pos (by omega), if_pos (by omega), if_pos rfl, hw1]
    exact ih (i + 1) k (by omega) (by omega)
theorem sameb_eq (k : Nat) (l : List Int) (hL : l.length ≤ 100000) (hk : l.length < k) : packthreadkeep_sameBytes.f k l l = some true := by
  unfold packthreadkeep_sameBytes.f
  rw [if_pos rfl]
  exact sameb_l0 l hL l.length 0 k (by omega) (by omega)

/-! fetch: what holds at each step, and the play as a plain walk along the list -/
structure InvB (st : FSt) : Prop where
  l1 : st.1.length ≤ 6
  fr : 0 ≤ st.2.1 ∧ st.2.1 ≤ 2200
  en : -1 ≤ st.2.2.1 ∧ st.2.2.1 ≤ 10000
  dl : st.2.2.2.length ≤ 20000
theorem onL_len (en : Int) : ∀ (k : Nat) (out : List S82) (front : Int) (ws : List S82), out.length ≤ 6 → (onL en k out front ws).1.length ≤ 6
  | 0, _, _, _, h => h
  | k + 1, out, front, ws, h => by
    rw [onL]
    split
    · exact onL_len en k _ _ _ (by rw [List.length_append]; simp; omega)
    · exact h
theorem onL_front (en : Int) : ∀ (k : Nat) (out : List S82) (front : Int) (ws : List S82), 0 ≤ front ∧ front ≤ 2200 → 0 ≤ (onL en k out front ws).2.1 ∧ (onL en k out front ws).2.1 ≤ 2200
  | 0, _, _, _, h => h
  | k + 1, out, front, ws, h => by
    rw [onL]
    split
    · exact onL_front en k _ _ _ (by omega)
    · exact h
theorem got_none {st : FSt} {a c : Int} {gd : List Int} (h : st.1.findIdx? (fun x => a == x.f0 && c == x.f1) = none) : gotF st a c gd = (st, (7, [], false, [])) := by
  unfold gotF
  rw [h]
theorem got_long {st : FSt} {a c : Int} {gd : List Int} {i : Nat} (h : st.1.findIdx? (fun x => a == x.f0 && c == x.f1) = some i) (hc : c < (gd.length : Int)) : gotF st a c gd = (st, (1, [], false, [])) := by
  unfold gotF
  rw [h]
  dsimp only
  rw [if_pos hc]
theorem got_some {st : FSt} {a c : Int} {gd : List Int} {i : Nat} (h : st.1.findIdx? (fun x => a == x.f0 && c == x.f1) = some i) (hc : ¬ c < (gd.length : Int)) {o : List S82} {fr : Int} {ws : List S82} (ho : onL (en1F st.2.2.1 a gd) 6 (st.1.eraseIdx i ++ moreF a c gd) st.2.1 (moreF a c gd) = (o, fr, ws)) {b : Bool} (hb : onB (en1F st.2.2.1 a gd) o = b) :
    gotF st a c gd = ((o, fr, en1F st.2.2.1 a gd, putF st.2.2.2 a.toNat gd), (0, ws, b, if b = true then (putF st.2.2.2 a.toNat gd).take (mn (en1F st.2.2.1 a gd) ((putF st.2.2.2 a.toNat gd).length : Int)).toNat else [])) := by
  unfold gotF
  rw [h]
  dsimp only
  rw [if_neg hc, ho]
  dsimp only
  rw [hb]
theorem more_len (a c : Int) (gd : List Int) : (moreF a c gd).length ≤ 1 := by unfold moreF; split <;> simp
theorem putF_len (d : List Int) (a : Nat) (gd : List Int) : (putF d a gd).length = max d.length (a + gd.length) := by
  unfold putF
  simp only [List.length_append, List.length_take, List.length_drop, List.length_replicate]
  omega
theorem invB_got {st : FSt} (h : InvB st) {a c : Int} {gd : List Int} (ha : 0 ≤ a ∧ a ≤ 10000) (hg : gd.length ≤ 10000) : InvB (gotF st a c gd).1 ∧ (gotF st a c gd).2.2.2.2.length ≤ 20000 := by
  rcases hfi : st.1.findIdx? (fun x => a == x.f0 && c == x.f1) with _ | i
  · rw [got_none hfi]; exact ⟨h, by simp⟩
  · by_cases hc : c < (gd.length : Int)
    · rw [got_long hfi hc]; exact ⟨h, by simp⟩
    · have hi : i < st.1.length := by
        rw [List.findIdx?_eq_some_iff_getElem] at hfi
        exact hfi.1
      obtain ⟨⟨o, fr, ws⟩, ho⟩ : ∃ y, onL (en1F st.2.2.1 a gd) 6 (st.1.eraseIdx i ++ moreF a c gd) st.2.1 (moreF a c gd) = y := ⟨_, rfl⟩
      have e1 := onL_len (en1F st.2.2.1 a gd) 6 (st.1.eraseIdx i ++ moreF a c gd) st.2.1 (moreF a c gd) (by
        have := more_len a c gd
        have := h.l1
        rw [List.length_append, List.length_eraseIdx, if_pos hi]; omega)
      have e2 := onL_front (en1F st.2.2.1 a gd) 6 (st.1.eraseIdx i ++ moreF a c gd) st.2.1 (moreF a c gd) h.fr
      rw [ho] at e1 e2
      have e3 : (putF st.2.2.2 a.toNat gd).length ≤ 20000 := by rw [putF_len]; have := h.dl; omega
      rw [got_some hfi hc ho rfl]
      refine ⟨⟨e1, e2, ?_, e3⟩, ?_⟩
      · show -1 ≤ en1F st.2.2.1 a gd ∧ en1F st.2.2.1 a gd ≤ 10000
        have := h.en
        unfold en1F
        split <;> omega
      · show (if _ then _ else _ : List Int).length ≤ 20000
        split
        · rw [List.length_take]; omega
        · simp
def GB (g : S65) : Prop := (0 ≤ g.f0 ∧ g.f0 ≤ 10000) ∧ (-10000 ≤ g.f1 ∧ g.f1 ≤ 10000) ∧ g.f2.length ≤ 10000
theorem okG_of {st : FSt} (h : InvB st) {g : S65} (hg : GB g) : okG st g :=
  ⟨by have := h.l1; omega, h.dl, hg.2.2, ⟨h.fr.1, by have := h.fr.2; omega⟩, ⟨h.en.1, by have := h.en.2; omega⟩, hg.1, hg.2.1⟩
def gsOut : FSt → List S65 → List S71
  | _, [] => []
  | st, g :: gs => fnx (gotF st g.f0 g.f1 g.f2).2 :: gsOut (gotF st g.f0 g.f1 g.f2).1 gs
theorem play_is : ∀ (gs : List S65) (st : FSt) (acc : List S71), InvB st → (∀ g, g ∈ gs → GB g) → playL st gs acc = some (acc ++ gsOut st gs)
  | [], st, acc, _, _ => by rw [playL, gsOut, List.append_nil]
  | g :: gs, st, acc, h, hg => by
    have h1 := hg g (List.mem_cons_self ..)
    rw [playL, if_pos (okG_of h h1), play_is gs _ _ (invB_got h h1.1 h1.2.2).1 (fun x hx => hg x (List.mem_cons_of_mem _ hx)), gsOut, List.append_assoc]
    rfl
theorem gsOut_len : ∀ (gs : List S65) (st : FSt), (gsOut st gs).length = gs.length
  | [], _ => rfl
  | g :: gs, st => by rw [gsOut, List.length_cons, gsOut_len gs, List.length_cons]
def w0s : List S82 := [⟨0, 100⟩, ⟨100, 100⟩, ⟨200, 100⟩, ⟨300, 100⟩, ⟨400, 100⟩, ⟨500, 100⟩]
theorem on0 : onL (-1) 6 [] 0 [] = (w0s, 600, w0s) := by
  simp [onL, w0s]
theorem st0_is : st0 = (w0s, 600, -1, []) := by unfold st0; rw [on0]
theorem invB0 : InvB st0 := by
  rw [st0_is]
  exact ⟨by decide, by decide, by decide, by decide⟩
theorem fplay_eq (gs : List S65) (hl : gs.length ≤ 300) (hg : ∀ g, g ∈ gs → GB g) : fetch_Play.f gs = some (⟨0, w0s, false, []⟩ :: gsOut st0 gs, 0) := by
  unfold fetch_Play.f
  rw [if_neg (by omega), on0, play_is gs _ _ invB0 hg]
  rfl

def Apt (a b : S82) : Prop := a.f0 + a.f1 ≤ b.f0 ∨ b.f0 + b.f1 ≤ a.f0
theorem Apt.symm {a b : S82} (h : Apt a b) : Apt b a := Or.symm h
structure J (file : List Int) (out : List S82) (front en : Int) (data : List Int) : Prop where
  ws : ∀ w, w ∈ out → 0 ≤ w.f0 ∧ 1 ≤ w.f1 ∧ w.f1 ≤ 100 ∧ w.f0 + w.f1 ≤ front
  ap : out.Pairwise Apt
  cov : ∀ p : Nat, (p : Int) < front → p < file.length → data[p]? = file[p]? ∨ ∃ w, w ∈ out ∧ w.f0 ≤ (p : Int) ∧ (p : Int) < w.f0 + w.f1
  en1 : en = -1 ∨ ((file.length : Int) ≤ en ∧ en < front)
  nn : (file.length : Int) < front → en = (file.length : Int) ∨ ∃ w, w ∈ out ∧ w.f0 ≤ (file.length : Int) ∧ (file.length : Int) < w.f0 + w.f1
  f0 : 0 ≤ front
theorem mem_erase {l : List S82} {k : Nat} (hk : k < l.length) {q : S82} (h : q ∈ l) : q = l[k] ∨ q ∈ l.eraseIdx k := by
  obtain ⟨i, hi, rfl⟩ := List.mem_iff_getElem.1 h
  by_cases e : i = k
  · subst e; exact .inl rfl
  · exact .inr (List.mem_eraseIdx_iff_getElem.2 ⟨i, hi, e, rfl⟩)
theorem apt_erase {l : List S82} (h : l.Pairwise Apt) {k : Nat} (hk : k < l.length) {q : S82} (hq : q ∈ l.eraseIdx k) : Apt l[k] q := by
  obtain ⟨i, hi, e, rfl⟩ := List.mem_eraseIdx_iff_getElem.1 hq
  rw [List.pairwise_iff_getElem] at h
  rcases Nat.lt_or_gt_of_ne e with h1 | h1
  · exact (h i k hi hk h1).symm
  · exact h k i hk hi h1
theorem put_in (data : List Int) (a : Nat) (gd : List Int) (p : Nat) (h1 : a ≤ p) (h2 : p < a + gd.length) : (putF data a gd)[p]? = gd[p - a]? := by
  unfold putF
  have hl : ((data ++ List.replicate (a + gd.length - data.length) 0).take a).length = a := by
    rw [List.length_take, List.length_append, List.length_replicate]; omega
  rw [List.append_assoc, List.getElem?_append_right (by omega), hl, List.getElem?_append_left (by omega)]
theorem put_out (data : List Int) (a : Nat) (gd : List Int) (p : Nat) (hp : p < data.length) (h : ¬ (a ≤ p ∧ p < a + gd.length)) : (putF data a gd)[p]? = data[p]? := by
  unfold putF
  have hl : ((data ++ List.replicate (a + gd.length - data.length) 0).take a).length = a := by
    rw [List.length_take, List.length_append, List.length_replicate]; omega
  rw [List.append_assoc]
  by_cases h1 : p < a
  · rw [List.getElem?_append_left (by omega), List.getElem?_take, if_pos h1, List.getElem?_append_left hp]
  · rw [List.getElem?_append_right (by omega), hl, List.getElem?_append_right (by omega), List.getElem?_drop, show a + gd.length + (p - a - gd.length) = p by omega, List.getElem?_append_left hp]
/-- what a want is answered with -/
theorem data_nil {file : List Int} {x : Int} {w : S82} (h : (file.length : Int) ≤ w.f0) : dataOf file x w = [] := by
  unfold dataOf
  rw [if_neg (by omega)]
theorem m_range {file : List Int} {x : Int} {w : S82} (h : w.f0 < (file.length : Int)) (h1 : 1 ≤ w.f1) : 1 ≤ mOf file x w ∧ mOf file x w ≤ w.f1 ∧ w.f0 + mOf file x w ≤ (file.length : Int) := by
  unfold mOf mn
  split <;> split <;> omega
theorem data_len {file : List Int} {x : Int} {w : S82} (h : w.f0 < (file.length : Int)) (h0 : 0 ≤ w.f0) (h1 : 1 ≤ w.f1) : ((dataOf file x w).length : Int) = mOf file x w := by
  have := m_range (x := x) h h1
  unfold dataOf
  rw [if_pos h, List.length_drop, List.length_take]
  omega
theorem data_at {file : List Int} {x : Int} {w : S82} (h : w.f0 < (file.length : Int)) (h0 : 0 ≤ w.f0) (h1 : 1 ≤ w.f1) (j : Nat) (hj : (j : Int) < mOf file x w) : (dataOf file x w)[j]? = file[w.f0.toNat + j]? := by
  have := m_range (x := x) h h1
  unfold dataOf
  rw [if_pos h, List.getElem?_drop, List.getElem?_take, if_pos (by omega)]
/-- one want is answered: what is left of it is asked -/
theorem J.answer {file : List Int} {out : List S82} {front en : Int} {data : List Int} (h : J file out front en data) {k : Nat} (hk : k < out.length) (x : Int) :
    J file (out.eraseIdx k ++ moreF out[k].f0 out[k].f1 (dataOf file x out[k])) front (en1F en out[k].f0 (dataOf file x out[k])) (putF data out[k].f0.toNat (dataOf file x out[k])) := by
  obtain ⟨w, hw⟩ : ∃ w, out[k] = w := ⟨_, rfl⟩
  have hwm := h.ws w (hw ▸ List.getElem_mem hk)
  have hmem : ∀ q, q ∈ out → q = w ∨ q ∈ out.eraseIdx k := fun q hq => by rw [← hw]; exact mem_erase hk hq
  have happ : ∀ q, q ∈ out.eraseIdx k → Apt w q := fun q hq => by rw [← hw]; exact apt_erase h.ap hk hq
  have hws : ∀ q, q ∈ out.eraseIdx k → 0 ≤ q.f0 ∧ 1 ≤ q.f1 ∧ q.f1 ≤ 100 ∧ q.f0 + q.f1 ≤ front := fun q hq => h.ws q (List.mem_of_mem_eraseIdx hq)
  have hap : (out.eraseIdx k).Pairwise Apt := h.ap.sublist (List.eraseIdx_sublist _ _)
  rw [hw]
  by_cases hc : w.f0 < (file.length : Int)
  · have hm := m_range (x := x) hc hwm.2.1
    have hl := data_len (x := x) hc hwm.1 hwm.2.1
    have hda := data_at (x := x) hc hwm.1 hwm.2.1
    obtain ⟨m, hmm⟩ : ∃ m, mOf file x w = m := ⟨_, rfl⟩
    obtain ⟨d, hd⟩ : ∃ d, dataOf file x w = d := ⟨_, rfl⟩
    rw [hmm] at hm hl hda
    rw [hd] at hl hda ⊢
    have hmr : ∀ q, q ∈ moreF w.f0 w.f1 d → q.f0 = w.f0 + m ∧ q.f1 = w.f1 - m ∧ m < w.f1 := by
      intro q hq
      unfold moreF at hq
      split at hq
      · rw [List.mem_singleton] at hq
        subst hq
        dsimp only
        omega
      · cases hq
    have hmi : m < w.f1 → (⟨w.f0 + m, w.f1 - m⟩ : S82) ∈ moreF w.f0 w.f1 d := by
      intro h9
      unfold moreF
      rw [if_pos (by omega), hl]
      exact List.mem_singleton.2 rfl
    have hen : en1F en w.f0 d = en := by unfold en1F; rw [if_neg (by omega)]
    rw [hen]
    refine ⟨fun q hq => ?_, ?_, fun p hp hpn => ?_, h.en1, fun hn => ?_, h.f0⟩
    · rcases List.mem_append.1 hq with hq | hq
      · exact hws q hq
      · have := hmr q hq
        omega
    · rw [List.pairwise_append]
      refine ⟨hap, ?_, fun a ha b hb => ?_⟩
      · unfold moreF
        split
        · exact List.pairwise_singleton _ _
        · exact List.Pairwise.nil
      · have h1 := hmr b hb
        have h2 := happ a ha
        unfold Apt at h2 ⊢
        omega
    · by_cases hin : w.f0 ≤ (p : Int) ∧ (p : Int) < w.f0 + m
      · left
        rw [put_in _ _ _ _ (by omega) (by omega), hda _ (by omega), show w.f0.toNat + (p - w.f0.toNat) = p by omega]
      · rcases h.cov p hp hpn with h1 | ⟨q, hq, h1⟩
        · left
          have hpd : p < data.length := by
            rw [List.getElem?_eq_getElem hpn] at h1
            exact (List.getElem?_eq_some_iff.1 h1).1
          rw [put_out _ _ _ _ hpd (by omega), h1]
        · rcases hmem q hq with rfl | hq
          · right
            exact ⟨_, List.mem_append_right _ (hmi (by omega)), by dsimp only; omega, by dsimp only; omega⟩
          · exact .inr ⟨q, List.mem_append_left _ hq, h1⟩
    · rcases h.nn hn with h1 | ⟨q, hq, h1⟩
      · exact .inl h1
      · rcases hmem q hq with rfl | hq
        · exact .inr ⟨_, List.mem_append_right _ (hmi (by omega)), by dsimp only; omega, by dsimp only; omega⟩
        · exact .inr ⟨q, List.mem_append_left _ hq, h1⟩
  · rw [data_nil (by omega)]
    have hm0 : moreF w.f0 w.f1 [] = [] := by unfold moreF; rw [if_neg (by simp)]
    rw [hm0, List.append_nil]
    have hen : en1F en w.f0 [] = if en < 0 ∨ w.f0 < en then w.f0 else en := by unfold en1F; simp
    rw [hen]
    have he1 := h.en1
    refine ⟨hws, hap, fun p hp hpn => ?_, ?_, fun hn => ?_, h.f0⟩
    · rcases h.cov p hp hpn with h1 | ⟨q, hq, h1⟩
      · left
        have hpd : p < data.length := by
          rw [List.getElem?_eq_getElem hpn] at h1
          exact (List.getElem?_eq_some_iff.1 h1).1
        rw [put_out _ _ _ _ hpd (by simp), h1]
      · rcases hmem q hq with rfl | hq
        · omega
        · exact .inr ⟨q, hq, h1⟩
    · right
      split <;> omega
    · rcases h.nn hn with h1 | ⟨q, hq, h1⟩
      · left
        rw [if_neg (by omega)]
        exact h1
      · rcases hmem q hq with rfl | hq
        · left
          split <;> omega
        · exact .inr ⟨q, hq, h1⟩
/-- more is asked -/
theorem J.on {file : List Int} {en : Int} {data : List Int} : ∀ (k : Nat) (out : List S82) (front : Int) (ws : List S82), J file out front en data → ∃ add fr, onL en k out front ws = (out ++ add, fr, ws ++ add) ∧ J file (out ++ add) fr en data
  | 0, out, front, ws, h => ⟨[], front, by rw [onL, List.append_nil, List.append_nil], by rw [List.append_nil]; exact h⟩
  | k + 1, out, front, ws, h => by
    rw [onL]
    split
    · have h2 : J file (out ++ [⟨front, 100⟩]) (front + 100) en data := by
        have hf := h.f0
        refine ⟨fun q hq => ?_, ?_, fun p hp hpn => ?_, ?_, fun hn => ?_, by omega⟩
        · rcases List.mem_append.1 hq with hq | hq
          · have := h.ws q hq; omega
          · rw [List.mem_singleton] at hq; subst hq; dsimp only; omega
        · rw [List.pairwise_append]
          refine ⟨h.ap, List.pairwise_singleton _ _, fun a ha b hb => ?_⟩
          rw [List.mem_singleton] at hb
          subst hb
          have := h.ws a ha
          unfold Apt
          dsimp only
          omega
        · by_cases h1 : (p : Int) < front
          · rcases h.cov p h1 hpn with h2 | ⟨q, hq, h2⟩
            · exact .inl h2
            · exact .inr ⟨q, List.mem_append_left _ hq, h2⟩
          · exact .inr ⟨_, List.mem_append_right _ (List.mem_singleton.2 rfl), by dsimp only; omega, by dsimp only; omega⟩
        · have := h.en1; omega
        · by_cases h1 : (file.length : Int) < front
          · rcases h.nn h1 with h2 | ⟨q, hq, h2⟩
            · exact .inl h2
            · exact .inr ⟨q, List.mem_append_left _ hq, h2⟩
          · exact .inr ⟨_, List.mem_append_right _ (List.mem_singleton.2 rfl), by dsimp only; omega, by dsimp only; omega⟩
      obtain ⟨add, fr, e, hj⟩ := J.on k _ _ (ws ++ [⟨front, 100⟩]) h2
      refine ⟨⟨front, 100⟩ :: add, fr, ?_, ?_⟩
      · rw [e, List.append_assoc, List.append_assoc]; rfl
      · rw [List.append_assoc] at hj
        exact hj
    · exact ⟨[], front, by rw [List.append_nil, List.append_nil], by rw [List.append_nil]; exact h⟩
/-- what is left to do -/
def beta (m : Nat) : Nat := if m = 0 then 0 else if m < 2 then 1 else if m < 4 then 2 else if m < 8 then 3 else if m < 16 then 4 else if m < 32 then 5 else if m < 64 then 6 else 7
theorem beta_le (m : Nat) : beta m ≤ 7 := by
  unfold beta
  repeat' split
  all_goals omega
theorem beta_half (m : Nat) (h : 1 ≤ m) (h1 : m ≤ 127) : beta (m / 2) + 1 ≤ beta m := by
  unfold beta
  repeat' split
  all_goals omega
theorem beta_pos (m : Nat) (h : 1 ≤ m) : 1 ≤ beta m := by
  unfold beta
  repeat' split
  all_goals omega
def psi (n : Nat) (w : S82) : Nat := 1 + beta (min w.f1.toNat (n - w.f0.toNat))
def mu (n : Nat) (out : List S82) (front : Int) : Nat := (out.map (psi n)).sum + 8 * ((2199 - front).toNat / 100)
theorem sum_erase (f : S82 → Nat) : ∀ (l : List S82) (k : Nat) (hk : k < l.length), (l.map f).sum = f l[k] + ((l.eraseIdx k).map f).sum
  | [], k, hk => absurd hk (by simp)
  | a :: l, 0, hk => by simp
  | a :: l, k + 1, hk => by
    rw [List.eraseIdx_cons_succ, List.map_cons, List.sum_cons, List.map_cons, List.sum_cons, sum_erase f l k (by simpa using hk), List.getElem_cons_succ]
    omega
theorem psi_more {file : List Int} {x : Int} {w : S82} (h0 : 0 ≤ w.f0) (h1 : 1 ≤ w.f1) (h2 : w.f1 ≤ 100) : ((moreF w.f0 w.f1 (dataOf file x w)).map (psi file.length)).sum + 1 ≤ psi file.length w := by
  by_cases hc : w.f0 < (file.length : Int)
  · have hl := data_len (x := x) hc h0 h1
    have hm := m_range (x := x) hc h1
    unfold moreF
    split
    · rename_i hs
      rw [hl, List.map_cons, List.map_nil, List.sum_cons, List.sum_nil]
      unfold psi
      dsimp only
      have hm2 : mOf file x w = mn w.f1 ((file.length : Int) - w.f0) ∨ mOf file x w = (mn w.f1 ((file.length : Int) - w.f0) + 1) / 2 := by
        unfold mOf
        split
        · exact .inr rfl
        · exact .inl rfl
      obtain ⟨m, hmm⟩ : ∃ m, mOf file x w = m := ⟨_, rfl⟩
      rw [hmm] at hm2 hm hl ⊢
      have hmn : mn w.f1 ((file.length : Int) - w.f0) = (min w.f1.toNat (file.length - w.f0.toNat) : Nat) := by
        unfold mn
        split <;> omega
      rw [hmn] at hm2
      obtain ⟨q, hq⟩ : ∃ q, min w.f1.toNat (file.length - w.f0.toNat) = q := ⟨_, rfl⟩
      have hq1 : 1 ≤ q ∧ q ≤ 100 ∧ q ≤ w.f1.toNat ∧ q ≤ file.length - w.f0.toNat ∧ (q = w.f1.toNat ∨ q = file.length - w.f0.toNat) := by omega
      rw [hq] at hm2 ⊢
      rcases hm2 with e | e
      · have e2 : min (w.f1 - m).toNat (file.length - (w.f0 + m).toNat) = 0 := by omega
        rw [e2]
        have := beta_pos q hq1.1
        have : beta 0 = 0 := rfl
        omega
      · have e2 : min (w.f1 - m).toNat (file.length - (w.f0 + m).toNat) = q / 2 := by omega
        rw [e2]
        have := beta_half q hq1.1 (by omega)
        omega
    · simp [psi]
  · rw [data_nil (by omega)]
    unfold moreF
    rw [if_neg (by simp)]
    simp [psi]
theorem mu_on (n : Nat) (en : Int) : ∀ (k : Nat) (out : List S82) (front : Int) (ws : List S82), mu n (onL en k out front ws).1 (onL en k out front ws).2.1 ≤ mu n out front
  | 0, _, _, _ => Nat.le_refl _
  | k + 1, out, front, ws => by
    rw [onL]
    split
    · refine Nat.le_trans (mu_on n en k _ _ _) ?_
      unfold mu
      rw [List.map_append, List.sum_append, List.map_cons, List.map_nil, List.sum_cons, List.sum_nil]
      have : psi n ⟨front, 100⟩ ≤ 8 := by unfold psi; have := beta_le (min (100 : Int).toNat (n - front.toNat)); dsimp only; omega
      omega
    · exact Nat.le_refl _
theorem mu_pos {n : Nat} {out : List S82} {front : Int} (h : out ≠ []) : 1 ≤ mu n out front := by
  cases out with
  | nil => exact absurd rfl h
  | cons a l => unfold mu psi; rw [List.map_cons, List.sum_cons]; omega
theorem join_ok : ∀ (ws out : List S82), (out ++ ws).Pairwise Apt → (∀ w, w ∈ ws → bOK w) → joinF ws out = some (out ++ ws)
  | [], out, _, _ => by rw [joinF, List.append_nil]
  | w :: ws, out, h, hb => by
    rw [joinF]
    have h1 := (List.pairwise_append.1 h).2.2
    have hany : (out.any fun q => meetsB w q) = false := by
      rw [List.any_eq_false]
      intro q hq h2
      have h3 := h1 q hq w (List.mem_cons_self ..)
      unfold meetsB at h2
      rw [Bool.and_eq_true, decide_eq_true_eq, decide_eq_true_eq] at h2
      unfold Apt at h3
      omega
    rw [if_pos ⟨hb w (List.mem_cons_self ..), hany⟩, join_ok ws (out ++ [w]) (by rw [List.append_assoc]; exact h) (fun q hq => hb q (List.mem_cons_of_mem _ hq)), List.append_assoc]
    rfl
/-- which want it is -/
theorem idx_ok {out : List S82} (hw : ∀ w, w ∈ out → 1 ≤ w.f1) (h : out.Pairwise Apt) {k : Nat} (hk : k < out.length) : out.findIdx? (fun x => out[k].f0 == x.f0 && out[k].f1 == x.f1) = some k := by
  rw [List.findIdx?_eq_some_iff_getElem]
  refine ⟨hk, by simp, fun j hj => ?_⟩
  rw [List.pairwise_iff_getElem] at h
  have h1 := h j k (by omega) hk hj
  have h2 := hw _ (List.getElem_mem hk)
  intro h3
  rw [Bool.and_eq_true, beq_iff_eq, beq_iff_eq] at h3
  have h4 := hw out[j] (List.getElem_mem (by omega))
  unfold Apt at h1
  omega
def aft : FSt → List S65 → FSt
  | st, [] => st
  | st, g :: gs => aft (gotF st g.f0 g.f1 g.f2).1 gs
theorem aft_snoc : ∀ (gs : List S65) (st : FSt) (g : S65), aft st (gs ++ [g]) = (gotF (aft st gs) g.f0 g.f1 g.f2).1
  | [], st, g => rfl
  | a :: gs, st, g => by rw [List.cons_append, aft, aft_snoc gs, aft]
theorem gsOut_snoc : ∀ (gs : List S65) (st : FSt) (g : S65), gsOut st (gs ++ [g]) = gsOut st gs ++ [fnx (gotF (aft st gs) g.f0 g.f1 g.f2).2]
  | [], st, g => rfl
  | a :: gs, st, g => by rw [List.cons_append, gsOut, gsOut_snoc gs, gsOut, aft]; rfl
theorem run_ok (file order : List Int) (hn : file.length < 900) : ∀ (m i : Nat) (gots : List S65) (st : FSt), aft st0 gots = st → InvB st → J file st.1 st.2.1 st.2.2.1 st.2.2.2 → st.1 ≠ [] → mu file.length st.1 st.2.1 ≤ m → gots.length = i → i + m ≤ 280 → (∀ g, g ∈ gots → GB g) → runF file order m i gots st.1 = some file := by
  intro m
  induction m with
  | zero =>
    intro i gots st _ _ _ hne hmu
    have := mu_pos (n := file.length) (front := st.2.1) hne
    omega
  | succ m ih =>
    intro i gots st haft hB hJ hne hmu hgl him hgb
    obtain ⟨out, front, en, data⟩ := st
    dsimp only at hJ hne hmu ⊢
    have hol : 1 ≤ out.length := by
      rcases out with _ | ⟨a, l⟩
      · exact absurd rfl hne
      · simp
    have hl6 := hB.l1
    dsimp only at hl6
    have hbo : ∀ w, w ∈ out → bOK w := fun w hw => by
      have := hJ.ws w hw
      have := hB.fr
      unfold bOK
      dsimp only at this
      omega
    obtain ⟨x, hx⟩ : ∃ x, xOf order i = x := ⟨_, rfl⟩
    obtain ⟨k, hk⟩ : ∃ k, kOf x out.length = k := ⟨_, rfl⟩
    have hkl : k < out.length := by
      rw [← hk]
      unfold kOf
      have := Int.emod_nonneg x (show (out.length : Int) ≠ 0 by omega)
      have := Int.emod_lt_of_pos x (show (0 : Int) < (out.length : Int) by omega)
      omega
    have hrd : rd_T82 out (k : Int) = out[k] := by
      rw [rd_T82, Int.toNat_natCast, List.getD_eq_getElem?_getD, List.getElem?_eq_getElem hkl]; rfl
    obtain ⟨w, hw⟩ : ∃ w, out[k] = w := ⟨_, rfl⟩
    have hgs : gsOf file order i gots out = gots ++ [⟨w.f0, w.f1, dataOf file x w⟩] := by
      unfold gsOf
      rw [hx, hk, hrd, hw]
    have hwm := hJ.ws w (hw ▸ List.getElem_mem hkl)
    have hdl : ((dataOf file x w).length : Int) ≤ w.f1 := by
      by_cases hc : w.f0 < (file.length : Int)
      · rw [data_len hc hwm.1 hwm.2.1]
        exact (m_range hc hwm.2.1).2.1
      · rw [data_nil (by omega)]
        simp
        omega
    have hgb1 : ∀ g, g ∈ gsOf file order i gots out → GB g := by
      intro g hg
      rw [hgs] at hg
      rcases List.mem_append.1 hg with hg | hg
      · exact hgb g hg
      · rw [List.mem_singleton] at hg
        subst hg
        have := hbo w (hw ▸ List.getElem_mem hkl)
        exact ⟨this.1, by dsimp only; omega, by dsimp only; omega⟩
    have hA := hJ.answer hkl x
    rw [hw] at hA
    obtain ⟨add, fr, ho, hJ2⟩ := J.on 6 _ _ (moreF w.f0 w.f1 (dataOf file x w)) hA
    have hfi := idx_ok (fun q hq => (hJ.ws q hq).2.1) hJ.ap hkl
    rw [hw] at hfi
    obtain ⟨b, hb⟩ : ∃ b, onB (en1F en w.f0 (dataOf file x w)) (out.eraseIdx k ++ moreF w.f0 w.f1 (dataOf file x w) ++ add) = b := ⟨_, rfl⟩
    have hgot := got_some (st := (out, front, en, data)) hfi (by omega) ho hb
    dsimp only at hgot
    have hmu2 := mu_on file.length (en1F en w.f0 (dataOf file x w)) 6 (out.eraseIdx k ++ moreF w.f0 w.f1 (dataOf file x w)) front (moreF w.f0 w.f1 (dataOf file x w))
    rw [ho] at hmu2
    dsimp only at hmu2
    have hmu3 : mu file.length (out.eraseIdx k ++ moreF w.f0 w.f1 (dataOf file x w)) front + 1 ≤ mu file.length out front := by
      have e1 := sum_erase (psi file.length) out k hkl
      have e2 := psi_more (file := file) (x := x) hwm.1 hwm.2.1 hwm.2.2.1
      unfold mu
      rw [List.map_append, List.sum_append, e1, hw]
      omega
    have hB2 := (invB_got hB (a := w.f0) (c := w.f1) (gd := dataOf file x w) (by have := (hbo w (hw ▸ List.getElem_mem hkl)).1; exact this) (by omega)).1
    have hpl := fplay_eq (gsOf file order i gots out) (by rw [hgs, List.length_append]; simp; omega) hgb1
    have hout : gsOut st0 (gsOf file order i gots out) = gsOut st0 gots ++ [fnx (gotF (out, front, en, data) w.f0 w.f1 (dataOf file x w)).2] := by
      rw [hgs, gsOut_snoc, haft]
    have hlast : rd_T71 ((⟨0, w0s, false, []⟩ : S71) :: gsOut st0 (gsOf file order i gots out)) ((gots.length + 1 : Nat) : Int) = fnx (gotF (out, front, en, data) w.f0 w.f1 (dataOf file x w)).2 := by
      rw [rd_T71, Int.toNat_natCast, List.getD_eq_getElem?_getD, List.getElem?_cons_succ, hout, List.getElem?_append_right (by rw [gsOut_len]; exact Nat.le_refl _), gsOut_len, Nat.sub_self]
      rfl
    rw [hgot] at hlast hB2
    have haft2 : aft st0 (gsOf file order i gots out) = ((out.eraseIdx k ++ moreF w.f0 w.f1 (dataOf file x w) ++ add, fr, en1F en w.f0 (dataOf file x w), putF data w.f0.toNat (dataOf file x w)) : FSt) := by
      rw [hgs, aft_snoc, haft]
      dsimp only
      rw [hgot]
    have hws : (moreF w.f0 w.f1 (dataOf file x w) ++ add).length ≤ 100 := by
      have h1 := hB2.l1
      dsimp only at h1
      rw [List.append_assoc, List.length_append] at h1
      omega
    have hstep : stepF file order i gots out = some (out.eraseIdx k ++ moreF w.f0 w.f1 (dataOf file x w) ++ add, ⟨0, moreF w.f0 w.f1 (dataOf file x w) ++ add, b, if b = true then (putF data w.f0.toNat (dataOf file x w)).take (mn (en1F en w.f0 (dataOf file x w)) ((putF data w.f0.toNat (dataOf file x w)).length : Int)).toNat else []⟩) := by
      unfold stepF
      rw [if_pos ⟨hol, hl6, hbo⟩, hpl, Option.bind_some]
      dsimp only
      rw [hlast, if_pos ⟨rfl, by rw [List.length_cons, gsOut_len, hgs, List.length_append]; rfl, rfl, hws⟩, hx, hk]
      show (joinF (moreF w.f0 w.f1 (dataOf file x w) ++ add) (out.eraseIdx k)).map _ = _
      rw [join_ok _ _ (by rw [← List.append_assoc]; exact hJ2.ap) (fun q hq => ?_), Option.map_some, List.append_assoc]
      · rfl
      · have h1 := hJ2.ws q (by rw [List.append_assoc]; exact List.mem_append_right _ hq)
        have h2 := hB2.fr
        dsimp only at h2
        unfold bOK
        omega
    rw [runF, hstep, Option.bind_some]
    dsimp only
    have hen2 := hJ2.en1
    have hf2 := hJ2.f0
    cases b with
    | true =>
      rw [if_pos rfl, if_pos rfl]
      unfold onB at hb
      rw [Bool.and_eq_true, decide_eq_true_eq, Bool.not_eq_true', List.any_eq_false] at hb
      obtain ⟨he0, hno⟩ := hb
      have hno2 : ∀ q, q ∈ out.eraseIdx k ++ moreF w.f0 w.f1 (dataOf file x w) ++ add → ¬ q.f0 < en1F en w.f0 (dataOf file x w) := fun q hq h9 => hno q hq (decide_eq_true h9)
      have hen3 : en1F en w.f0 (dataOf file x w) = (file.length : Int) := by
        rcases hJ2.nn (by omega) with h1 | ⟨q, hq, h1⟩
        · exact h1
        · have := hno2 q hq
          omega
      have hcov : ∀ p : Nat, p < file.length → (putF data w.f0.toNat (dataOf file x w))[p]? = file[p]? := by
        intro p hp
        rcases hJ2.cov p (by omega) hp with h1 | ⟨q, hq, h1⟩
        · exact h1
        · have := hno2 q hq
          omega
      obtain ⟨d2, hd2⟩ : ∃ d2, putF data w.f0.toNat (dataOf file x w) = d2 := ⟨_, rfl⟩
      rw [hd2] at hcov ⊢
      rw [hen3]
      have hdl2 : file.length ≤ d2.length := by
        by_cases h0 : file.length = 0
        · omega
        · have h1 := hcov (file.length - 1) (by omega)
          have h2 : file[file.length - 1]? = some file[file.length - 1] := List.getElem?_eq_getElem (by omega)
          rw [h2] at h1
          have := (List.getElem?_eq_some_iff.1 h1).1
          omega
      have hmn : (mn (file.length : Int) (d2.length : Int)).toNat = file.length := by
        unfold mn
        split <;> omega
      rw [hmn]
      congr 1
      apply List.ext_getElem?
      intro p
      by_cases hp : p < file.length
      · rw [List.getElem?_take, if_pos hp, hcov p hp]
      · rw [List.getElem?_eq_none (by rw [List.length_take]; omega), List.getElem?_eq_none (by omega)]
    | false =>
      rw [if_neg (by simp)]
      refine ih (i + 1) (gsOf file order i gots out) (out.eraseIdx k ++ moreF w.f0 w.f1 (dataOf file x w) ++ add, fr, en1F en w.f0 (dataOf file x w), putF data w.f0.toNat (dataOf file x w)) haft2 hB2 hJ2 ?_ (by dsimp only; omega) (by rw [hgs, List.length_append]; simp; omega) (by omega) hgb1
      dsimp only
      intro hnil
      unfold onB at hb
      rw [hnil] at hb
      rw [hnil] at ho
      simp only [List.any_nil, Bool.not_false, Bool.and_true, decide_eq_false_iff_not] at hb
      have hfr2 : 2048 < fr := by
        have h6 : ∀ (k : Nat) (o : List S82) (f : Int) (ws : List S82), (onL (en1F en w.f0 (dataOf file x w)) (k + 1) o f ws).1 = [] → 2048 < (onL (en1F en w.f0 (dataOf file x w)) (k + 1) o f ws).2.1 := by
          intro k o f ws h9
          obtain ⟨a1, f1, e1⟩ : ∃ a1 f1, (onL (en1F en w.f0 (dataOf file x w)) (k + 1) o f ws) = (o ++ a1, f1, ws ++ a1) := by
            have : ∀ (k : Nat) (o : List S82) (f : Int) (ws : List S82), ∃ a1 f1, (onL (en1F en w.f0 (dataOf file x w)) k o f ws) = (o ++ a1, f1, ws ++ a1) := by
              intro k
              induction k with
              | zero => intro o f ws; exact ⟨[], f, by rw [onL, List.append_nil, List.append_nil]⟩
              | succ k ih =>
                intro o f ws
                rw [onL]
                split
                · obtain ⟨a1, f1, e1⟩ := ih (o ++ [⟨f, 100⟩]) (f + 100) (ws ++ [⟨f, 100⟩])
                  exact ⟨⟨f, 100⟩ :: a1, f1, by rw [e1, List.append_assoc, List.append_assoc]; rfl⟩
                · exact ⟨[], f, by rw [List.append_nil, List.append_nil]⟩
            exact this _ _ _ _
          rw [onL] at h9 ⊢
          split at h9
          · rename_i h10
            exfalso
            obtain ⟨a1, f1, e1⟩ : ∃ a1 f1, (onL (en1F en w.f0 (dataOf file x w)) k (o ++ [⟨f, 100⟩]) (f + 100) (ws ++ [⟨f, 100⟩])) = (o ++ [⟨f, 100⟩] ++ a1, f1, ws ++ [⟨f, 100⟩] ++ a1) := by
              rw [onL, if_pos h10] at e1
              have : ∀ (k : Nat) (o : List S82) (f : Int) (ws : List S82), ∃ a1 f1, (onL (en1F en w.f0 (dataOf file x w)) k o f ws) = (o ++ a1, f1, ws ++ a1) := by
                intro k
                induction k with
                | zero => intro o f ws; exact ⟨[], f, by rw [onL, List.append_nil, List.append_nil]⟩
                | succ k ih =>
                  intro o f ws
                  rw [onL]
                  split
                  · obtain ⟨a1, f1, e1⟩ := ih (o ++ [⟨f, 100⟩]) (f + 100) (ws ++ [⟨f, 100⟩])
                    exact ⟨⟨f, 100⟩ :: a1, f1, by rw [e1, List.append_assoc, List.append_assoc]; rfl⟩
                  · exact ⟨[], f, by rw [List.append_nil, List.append_nil]⟩
              exact this _ _ _ _
            rw [e1] at h9
            simp at h9
          · rename_i h10
            rw [if_neg h10]
            dsimp only at h9
            subst h9
            simp at h10
            dsimp only
            omega
        have h7 := h6 5 _ _ _ (by rw [ho])
        rw [ho] at h7
        exact h7
      rcases hJ2.nn (by omega) with h1 | ⟨q, hq, h1⟩
      · omega
      · rw [hnil] at hq
        cases hq
theorem FetchAll : packthreadkeep_FetchAll.Pure := by
  intro a0 a1 l2 _ _ hm2 _ _
  obtain ⟨k, hk⟩ : ∃ k, 2000 ≤ k := ⟨2000, Nat.le_refl _⟩
  refine ⟨k, ?_⟩
  unfold packthreadkeep_FetchAll.f
  have p0 := Int.emod_nonneg a1 (show (900 : Int) ≠ 0 by decide)
  have p1 := Int.emod_lt_of_pos a1 (show (0 : Int) < 900 by decide)
  obtain ⟨n, hn⟩ : ∃ n : Nat, (n : Int) = a1 % 900 := ⟨(a1 % 900).toNat, by omega⟩
  rw [picked_eq _ _ (by decide) (by decide), Option.bind_some, ← hn]
  obtain ⟨y, hy, hyl, _⟩ := stream_eq a0 n (by omega) k (by omega)
  rw [hy, Option.bind_some]
  have hJ0 : J y st0.1 st0.2.1 st0.2.2.1 st0.2.2.2 := by
    have h0 : J y [] 0 (-1) [] := ⟨fun _ h => (by cases h), List.Pairwise.nil, fun p hp _ => (by omega), .inl rfl, fun h => (by omega), Int.le_refl _⟩
    obtain ⟨add, fr, e, h⟩ := J.on 6 [] 0 [] h0
    rw [on0] at e
    injection e with e1 e2
    injection e2 with e2 e3
    rw [st0_is, e1, e2]
    exact h
  have hrun := run_ok y l2 (by omega) 280 0 [] st0 rfl invB0 hJ0 (by rw [st0_is]; simp [w0s]) (by
    rw [st0_is]
    unfold mu
    have hp : ∀ w, psi y.length w ≤ 8 := fun w => by unfold psi; have := beta_le (min w.f1.toNat (y.length - w.f0.toNat)); omega
    have e1 := hp ⟨0, 100⟩
    have e2 := hp ⟨100, 100⟩
    have e3 := hp ⟨200, 100⟩
    have e4 := hp ⟨300, 100⟩
    have e5 := hp ⟨400, 100⟩
    have e6 := hp ⟨500, 100⟩
    simp only [w0s, List.map_cons, List.map_nil, List.sum_cons, List.sum_nil]
    omega) rfl (by omega) (fun g hg => by cases hg)
  have hf : packthreadkeep_fetched.f y l2 = some (y, true) := by
    unfold packthreadkeep_fetched.f wants0
    rw [if_pos (by omega), on0]
    rw [st0_is] at hrun
    dsimp only at hrun ⊢
    rw [hrun]
    rfl
  rw [hf, Option.bind_some]
  dsimp only
  rw [if_pos rfl, sameb_eq k y (by omega) (by omega), Option.bind_some]

end Go.Proofs.Ytlgehakaedokeaa.Pure
