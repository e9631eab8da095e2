/- Proved: for every input the law FrameCuts answers true: in whatever pieces a stream comes, its frames are the same. Condition: none (every list of rows of bytes, every list of numbers). -/
import Derived.Test.YtknpmpfcmgjpdaaPFrameCutsx3
namespace Go.Proofs.Ytknpmpfcmgjpdaa.Pure
open Go.RowKit Go.Proofs.Ytknpmpfcmgjpdaa.PFrameCuts Go.Proofs.YtknpmpfcmgjpdaaW.PrintWords Go.Proofs.YtknpmpfcmgjpdaaW.PrintLast
set_option linter.unusedVariables false

theorem wrap64_id {x : Int} (h0 : -9223372036854775808 ≤ x) (h1 : x ≤ 9223372036854775807) : wrap64 x = x := by unfold wrap64; omega

theorem picked_eq (a n : Int) (h0 : 0 < n) (h1 : n ≤ 1000000000000) : packthreadkeep_Picked.f a n = some (a % n) := by
  unfold packthreadkeep_Picked.f
  rw [if_neg (by omega)]
  have hm := Int.tmod_eq_emod (a := a) (b := n)
  have hlo := Int.emod_nonneg a (show n ≠ 0 by omega)
  have hhi := Int.emod_lt_of_pos a h0
  by_cases hc : 0 ≤ a ∨ n ∣ a
  · rw [if_pos hc] at hm
    have e : a.tmod n = a % n := by rw [hm]; simp
    rw [e, if_neg (by omega)]
  · rw [if_neg hc] at hm
    have e : a.tmod n = a % n - n := by rw [hm]; congr 1; omega
    rw [e, if_pos (by omega), wrap64_id (by omega) (by omega)]
    congr 1; omega

def Oct (l : List Int) : Prop := ∀ x ∈ l, 0 ≤ x ∧ x ≤ 255
theorem oct_of {l : List Int} (h : ∀ x ∈ l, (Lit.int .u8 x).wf = true) : Oct l := fun x hx => by
  have := h x hx
  simp [Lit.wf, IntKind.min, IntKind.max, IntKind.signed, IntKind.bits] at this
  omega
theorem Oct.take {l : List Int} (h : Oct l) (n : Nat) : Oct (l.take n) := fun x hx => h x (List.mem_of_mem_take hx)
theorem Oct.append {a b : List Int} (h : Oct a) (g : Oct b) : Oct (a ++ b) := fun x hx => by
  rcases List.mem_append.1 hx with h1 | h1
  · exact h x h1
  · exact g x h1
theorem Oct.set {l : List Int} (h : Oct l) (i : Nat) (v : Int) (h0 : 0 ≤ v) (h1 : v ≤ 255) : Oct (l.set i v) := fun x hx => by
  rcases List.mem_or_eq_of_mem_set hx with h2 | h2
  · exact h x h2
  · subst h2; exact ⟨h0, h1⟩
theorem Oct.getD {l : List Int} (h : Oct l) (i : Nat) : 0 ≤ l.getD i 0 ∧ l.getD i 0 ≤ 255 := by
  by_cases c : i < l.length
  · rw [List.getD_eq_getElem?_getD, List.getElem?_eq_getElem c]; exact h _ (List.getElem_mem c)
  · rw [List.getD_eq_getElem?_getD, List.getElem?_eq_none (by omega)]; simp
theorem octets_eq (l : List Int) (n : Int) (m : Nat) (hm : n = (m : Int)) (hn : m ≤ 1000000) : packthreadkeep_Octets.f l n = some (l.take m) := by
  subst hm
  have e : (mn (l.length : Int) m).toNat = min l.length m := by unfold mn; split <;> omega
  have e0 : 0 ≤ mn (l.length : Int) m := by unfold mn; split <;> omega
  have e1 : mn (l.length : Int) m ≤ l.length := by unfold mn; split <;> omega
  unfold packthreadkeep_Octets.f
  rw [if_pos e0, if_pos e1, e, if_pos (by rw [List.length_take, List.length_nil]; omega), List.nil_append]
  congr 1
  by_cases c : l.length ≤ m
  · rw [Nat.min_eq_left c, List.take_length, List.take_of_length_le c]
  · rw [Nat.min_eq_right (by omega)]

theorem or8w {x y : Int} (h0 : 0 ≤ x) (h1 : x < 2 ^ 40) (h2 : 0 ≤ y) (h3 : y ≤ 255) : Go.bits .or .i64 (x * 256) y = x * 256 + y :=
  bits_join .i64 62 (by decide) (fun n h0 h1 => by rw [IntKind.wrap_i64]; omega) 8 (x * 256) y (by omega) (by omega) (by omega) h2 (by omega) (by omega)
def hd4 (n : Int) : List Int := [n / 16777216 % 256, n / 65536 % 256, n / 256 % 256, n % 256]
theorem put_eq (k : Nat) (n : Int) (hk : 10 ≤ k) : frame_Put.f k [] 4 n = some (hd4 n) := by
  obtain ⟨k, rfl⟩ : ∃ q, k = q + 10 := ⟨k - 10, by omega⟩
  have w3 : wrap64 (4 - 1) = 3 := wrap64_id (by decide) (by decide)
  have w2 : wrap64 (3 - 1) = 2 := wrap64_id (by decide) (by decide)
  have w1 : wrap64 (2 - 1) = 1 := wrap64_id (by decide) (by decide)
  have w0 : wrap64 (1 - 1) = 0 := wrap64_id (by decide) (by decide)
  have wm : wrap64 (0 - 1) = -1 := wrap64_id (by decide) (by decide)
  have m3 : wrap64 (8 * 3) = 24 := wrap64_id (by decide) (by decide)
  have m2 : wrap64 (8 * 2) = 16 := wrap64_id (by decide) (by decide)
  have m1 : wrap64 (8 * 1) = 8 := wrap64_id (by decide) (by decide)
  have m0 : wrap64 (8 * 0) = 0 := wrap64_id (by decide) (by decide)
  have s3 : shr .i64 n 24 = n / 16777216 := rfl
  have s2 : shr .i64 n 16 = n / 65536 := rfl
  have s1 : shr .i64 n 8 = n / 256 := rfl
  have s0 : shr .i64 n 0 = n := by show n / 2 ^ 0 = n; simp
  unfold frame_Put.f
  rw [w3, frame_Put.l0, if_pos (by decide), m3, if_pos (by decide), if_pos (by simp), w2, s3]
  rw [frame_Put.l0, if_pos (by decide), m2, if_pos (by decide), if_pos (by simp), w1, s2]
  rw [frame_Put.l0, if_pos (by decide), m1, if_pos (by decide), if_pos (by simp), w0, s1]
  rw [frame_Put.l0, if_pos (by decide), m0, if_pos (by decide), if_pos (by simp), wm, s0]
  rw [frame_Put.l0, if_neg (by decide)]
  rfl
theorem get_eq (k : Nat) (n : Int) (h0 : 0 ≤ n) (h1 : n < 2147483648) (hk : 10 ≤ k) : frame_Get.f k (hd4 n) = some n := by
  obtain ⟨k, rfl⟩ : ∃ q, k = q + 10 := ⟨k - 10, by omega⟩
  have i1 : wrap64 (0 + 1) = 1 := wrap64_id (by decide) (by decide)
  have i2 : wrap64 (1 + 1) = 2 := wrap64_id (by decide) (by decide)
  have i3 : wrap64 (2 + 1) = 3 := wrap64_id (by decide) (by decide)
  have i4 : wrap64 (3 + 1) = 4 := wrap64_id (by decide) (by decide)
  have r0 : rd (hd4 n) 0 = n / 16777216 % 256 := rfl
  have r1 : rd (hd4 n) 1 = n / 65536 % 256 := rfl
  have r2 : rd (hd4 n) 2 = n / 256 % 256 := rfl
  have r3 : rd (hd4 n) 3 = n % 256 := rfl
  have hl : ((hd4 n).length : Int) = 4 := rfl
  unfold frame_Get.f
  rw [hl, frame_Get.l0, if_pos (by decide), if_pos (by decide), if_pos (by rw [hl]; decide), r0, i1, wrap64_id (x := 0 * 256) (by decide) (by decide), wrap64_id (x := n / 16777216 % 256) (by omega) (by omega), or8w (by decide) (by decide) (by omega) (by omega)]
  rw [frame_Get.l0, if_pos (by decide), if_pos (by decide), if_pos (by rw [hl]; decide), r1, i2, wrap64_id (x := (0 * 256 + n / 16777216 % 256) * 256) (by omega) (by omega), wrap64_id (x := n / 65536 % 256) (by omega) (by omega), or8w (by omega) (by omega) (by omega) (by omega)]
  rw [frame_Get.l0, if_pos (by decide), if_pos (by decide), if_pos (by rw [hl]; decide), r2, i3, wrap64_id (x := ((0 * 256 + n / 16777216 % 256) * 256 + n / 65536 % 256) * 256) (by omega) (by omega), wrap64_id (x := n / 256 % 256) (by omega) (by omega), or8w (by omega) (by omega) (by omega) (by omega)]
  rw [frame_Get.l0, if_pos (by decide), if_pos (by decide), if_pos (by rw [hl]; decide), r3, i4, wrap64_id (x := (((0 * 256 + n / 16777216 % 256) * 256 + n / 65536 % 256) * 256 + n / 256 % 256) * 256) (by omega) (by omega), wrap64_id (x := n % 256) (by omega) (by omega), or8w (by omega) (by omega) (by omega) (by omega)]
  rw [frame_Get.l0, if_neg (by decide)]
  congr 1
  omega
theorem hd4_len (n : Int) : (hd4 n).length = 4 := rfl
theorem wrap_eq (k : Nat) (b : List Int) (hb : b.length ≤ 1024) (hk : 10 ≤ k) : frame_Wrap.f k b = some (hd4 b.length ++ b, 0) := by
  unfold frame_Wrap.f
  rw [if_neg (by omega), put_eq k _ hk, Option.bind_some, if_pos (by rw [hd4_len]; omega)]
def encF : List (List Int) → List Int
  | [] => []
  | b :: t => hd4 b.length ++ b ++ encF t
theorem encF_append : ∀ (a b : List (List Int)), encF (a ++ b) = encF a ++ encF b
  | [], b => rfl
  | x :: t, b => by
    rw [List.cons_append]
    simp only [encF]
    rw [encF_append t b]
    simp only [List.append_assoc]
theorem clone_b (l : List Int) (h : l.length < 140737488355328) : slices_Clone_byte_byte.f l = some l := by
  unfold slices_Clone_byte_byte.f
  rw [Option.bind_some, if_pos (by simpa using h), List.nil_append]
theorem feed_one (k : Nat) (b r : List Int) (acc : List (List Int)) (hb : b.length ≤ 1024) (hr : r.length < 100000000) (ha : acc.length < 100000) (hk : 20 < k) :
    frame_Feed.l0 (k + 1) (hd4 b.length ++ b ++ r) acc = frame_Feed.l0 k r (acc ++ [b]) := by
  have hl : ((hd4 b.length ++ b ++ r).length : Int) = 4 + b.length + r.length := by simp only [List.length_append, hd4_len]; omega
  have ht : (hd4 b.length ++ b ++ r).take 4 = hd4 b.length := by rw [List.append_assoc, List.take_left' (hd4_len _)]
  have hw : wrap64 (4 + (b.length : Int)) = ((4 + b.length : Nat) : Int) := by rw [wrap64_id (by omega) (by omega)]; omega
  rw [frame_Feed.l0, hl, if_pos (by omega), if_pos (by omega), ht, get_eq k _ (by omega) (by omega) (by omega), Option.bind_some, if_neg (by omega), hw, if_neg (by omega), if_pos (by omega), if_pos (by omega), Int.toNat_natCast]
  have hlen : (hd4 b.length ++ b).length = 4 + b.length := by simp only [List.length_append, hd4_len]
  rw [List.take_left' hlen, List.drop_left' (hd4_len _), clone_b b (by omega), Option.bind_some, if_pos (by omega), if_pos (by omega), List.drop_left' hlen]
theorem feed_enc : ∀ (bs : List (List Int)) (k : Nat) (r : List Int) (acc : List (List Int)), (∀ b, b ∈ bs → b.length ≤ 1024) → (encF bs).length + r.length < 100000000 → acc.length + bs.length < 100000 → 20 < k →
    frame_Feed.l0 (k + bs.length) (encF bs ++ r) acc = frame_Feed.l0 k r (acc ++ bs)
  | [], k, r, acc, _, _, _, _ => by simp [encF]
  | b :: t, k, r, acc, hb, hr, ha, hk => by
    have h1 := hb b List.mem_cons_self
    simp only [encF, List.length_append, List.length_cons, hd4_len] at hr ha ⊢
    have ih := feed_enc t k r (acc ++ [b]) (fun x hx => hb x (List.mem_cons_of_mem _ hx)) (by omega) (by simp; omega) hk
    rw [List.append_assoc (hd4 b.length ++ b), show k + (t.length + 1) = (k + t.length) + 1 by omega, feed_one _ _ _ _ h1 (by simp only [List.length_append]; omega) (by omega) (by omega), ih]
    simp
theorem feed_end (k : Nat) (r : List Int) (acc : List (List Int)) (hk : 20 < k) (hr : r.length < 100000000) (h : r.length < 4 ∨ ∃ m : Nat, m ≤ 1024 ∧ r.take 4 = hd4 m ∧ r.length < 4 + m) : frame_Feed.l0 k r acc = some (acc, r, 0) := by
  obtain ⟨k, rfl⟩ : ∃ q, k = q + 1 := ⟨k - 1, by omega⟩
  rw [frame_Feed.l0]
  by_cases c : r.length < 4
  · rw [if_neg (by omega), clone_b r (by omega), Option.bind_some]
  · rcases h with h | ⟨m, h1, h2, h3⟩
    · exact absurd h c
    · rw [if_pos (by omega), if_pos (by omega), h2, get_eq k _ (by omega) (by omega) (by omega), Option.bind_some, if_neg (by omega), wrap64_id (by omega) (by omega), if_pos (by omega), clone_b r (by omega), Option.bind_some]
theorem concat2 (k : Nat) (A B : List Int) (hA : A.length < 100000000) (hB : B.length < 100000000) (hk : 10 ≤ k) : slices_Concat_byte_byte.f k [A, B] = some (A ++ B) := by
  obtain ⟨k, rfl⟩ : ∃ q, k = q + 10 := ⟨k - 10, by omega⟩
  have r0 : rd_L1 [A, B] 0 = A := rfl
  have r1 : rd_L1 [A, B] 1 = B := rfl
  have l2 : (([A, B] : List (List Int)).length : Int) = 2 := rfl
  have w1 : wrap64 (0 + (A.length : Int)) = A.length := by rw [wrap64_id (by omega) (by omega)]; omega
  have w2 : wrap64 ((A.length : Int) + B.length) = A.length + B.length := wrap64_id (by omega) (by omega)
  have i1 : wrap64 (0 + 1) = 1 := wrap64_id (by decide) (by decide)
  have i2 : wrap64 (1 + 1) = 2 := wrap64_id (by decide) (by decide)
  unfold slices_Concat_byte_byte.f
  rw [l2, slices_Concat_byte_byte.l0, if_pos (by decide), if_pos (by decide), if_pos (by rw [l2]; decide), r0, w1, if_neg (by omega), i1]
  rw [slices_Concat_byte_byte.l0, if_pos (by decide), if_pos (by decide), if_pos (by rw [l2]; decide), r1, w2, if_neg (by omega), i2]
  rw [slices_Concat_byte_byte.l0, if_neg (by decide), if_pos (by omega), if_pos (by omega), l2]
  rw [slices_Concat_byte_byte.l1, if_pos (by decide), if_pos (by decide), if_pos (by rw [l2]; decide), r0, if_pos (by simp; omega), i1, List.nil_append]
  rw [slices_Concat_byte_byte.l1, if_pos (by decide), if_pos (by decide), if_pos (by rw [l2]; decide), r1, if_pos (by omega), i2]
  rw [slices_Concat_byte_byte.l1, if_neg (by decide)]

def cut100 (l : List (List Int)) (n : Nat) : List (List Int) := (l.take n).map (·.take 100)
theorem cut_len (l : List (List Int)) (n : Nat) : ∀ b, b ∈ cut100 l n → b.length ≤ 100 := fun b hb => by
  obtain ⟨x, _, rfl⟩ := List.mem_map.1 hb
  rw [List.length_take]
  omega
theorem encF_len : ∀ (bs : List (List Int)), (∀ b, b ∈ bs → b.length ≤ 100) → (encF bs).length ≤ 104 * bs.length
  | [], _ => Nat.le_refl _
  | b :: t, h => by
    have h1 := h b List.mem_cons_self
    have h2 := encF_len t (fun x hx => h x (List.mem_cons_of_mem _ hx))
    simp only [encF, List.length_append, List.length_cons, hd4_len]
    omega
theorem rdL1 (l : List (List Int)) (i : Nat) (h : i < l.length) : rd_L1 l (i : Int) = l[i] := by
  unfold rd_L1
  simp [h]
theorem wrapped_l0 (l : List (List Int)) (n : Nat) (hn : n ≤ 100) (_hm : l.length ≤ maxLen) : ∀ (m i k : Nat) (A : List Int) (B : List (List Int)), n ≤ i + m → i ≤ 200 → 2 * m + 40 < k → A.length ≤ 104 * i → B.length ≤ i → 
    packthreadkeep_wrapped.l0 k l (n : Int) A B (i : Int) = some (A ++ encF (((l.drop i).take (n - i)).map (·.take 100)), B ++ ((l.drop i).take (n - i)).map (·.take 100), true) := by
  intro m
  induction m with
  | zero =>
    intro i k A B hi hi2 hk hA hB
    obtain ⟨k, rfl⟩ : ∃ q, k = q + 2 := ⟨k - 2, by omega⟩
    have e : (decide ((i : Int) < (n : Int))) = false := by
      rw [decide_eq_false_iff_not]
      omega
    have e2 : packthreadkeep_wrapped.j1 (k + 1) l (n : Int) A B (i : Int) false = some (A, B, true) := by
      rw [packthreadkeep_wrapped.j1, if_neg (by decide)]
    rw [packthreadkeep_wrapped.l0, e, e2, ite_self, show n - i = 0 by omega]
    simp [encF]
  | succ m ih =>
    intro i k A B hi hi2 hk hA hB
    obtain ⟨k, rfl⟩ : ∃ q, k = q + 2 := ⟨k - 2, by omega⟩
    have hw1 : wrap64 ((i : Int) + 1) = ((i + 1 : Nat) : Int) := by rw [wrap64_id (by omega) (by omega)]; omega
    have e2 : packthreadkeep_wrapped.j1 (k + 1) l (n : Int) A B (i : Int) false = some (A, B, true) := by
      rw [packthreadkeep_wrapped.j1, if_neg (by decide)]
    rw [packthreadkeep_wrapped.l0]
    by_cases c1 : (i : Int) < (l.length : Int)
    · rw [if_pos c1]
      by_cases c2 : (i : Int) < (n : Int)
      · have hb : ((l[i]'(by omega)).take 100).length ≤ 100 := by rw [List.length_take]; omega
        rw [decide_eq_true c2, packthreadkeep_wrapped.j1, if_pos rfl, if_pos (by omega), if_pos c1, rdL1 l i (by omega), octets_eq _ 100 100 rfl (by decide), Option.bind_some, wrap_eq _ _ (by omega) (by omega), Option.bind_some]
        rw [List.drop_eq_getElem_cons (by omega : i < l.length), show n - i = (n - (i + 1)) + 1 by omega, List.take_succ_cons, List.map_cons]
        have hb2 : (hd4 ((l[i]'(by omega)).take 100).length ++ (l[i]'(by omega)).take 100).length = 4 + ((l[i]'(by omega)).take 100).length := by rw [List.length_append, hd4_len]
        generalize (l[i]'(by omega)).take 100 = b at *
        show (if (0 : Int) = 0 then if (((hd4 b.length ++ b).length : Nat) : Int) = wrap64 (4 + (b.length : Int)) then if A.length + (hd4 b.length ++ b).length < 140737488355328 then if B.length < 5864062014805 then packthreadkeep_wrapped.l0 k l n (A ++ (hd4 b.length ++ b)) (B ++ [b]) (wrap64 ((i : Int) + 1)) else none else none else some ([], [], false) else some ([], [], false)) = _
        rw [if_pos rfl, hb2, wrap64_id (x := 4 + (b.length : Int)) (by omega) (by omega), if_pos (by omega), if_pos (by omega), if_pos (by omega), hw1, ih (i + 1) k _ _ (by omega) (by omega) (by omega) (by rw [List.length_append, hb2]; omega) (by simp; omega)]
        simp [encF]
      · rw [decide_eq_false c2, e2, show n - i = 0 by omega]
        simp [encF]
    · rw [if_neg c1, List.drop_eq_nil_of_le (by omega)]
      by_cases c2 : (i : Int) < (n : Int)
      · rw [e2]
        simp [encF]
      · rw [e2]
        simp [encF]
theorem wrapped_eq (k : Nat) (l : List (List Int)) (n : Nat) (hn : n ≤ 100) (hm : l.length ≤ maxLen) (hk : 300 < k) : packthreadkeep_wrapped.f k l (n : Int) = some (encF (cut100 l n), cut100 l n, true) := by
  unfold packthreadkeep_wrapped.f
  rw [show (0 : Int) = ((0 : Nat) : Int) from rfl, wrapped_l0 l n hn hm n 0 k [] [] (by omega) (by omega) (by omega) (by simp) (by simp)]
  rfl

theorem sameb_l0 (l : List Int) (hL : l.length ≤ 100000) : ∀ (m i k : Nat), i + m = l.length → m < k → packthreadkeep_sameBytes.l0 k l l (i : Int) = some true := by
  intro m
  induction m with
  | zero =>
    intro i k hi hk
    obtain ⟨k, rfl⟩ : ∃ q, k = q + 1 := ⟨k - 1, by omega⟩
    rw [packthreadkeep_sameBytes.l0, if_neg (by omega)]
  | succ m ih =>
    intro i k hi hk
    obtain ⟨k, rfl⟩ : ∃ q, k = q + 1 := ⟨k - 1, by omega⟩
    have hw1 : wrap64 ((i : Int) + 1) = ((i + 1 : Nat) : Int) := by rw [wrap64_id (by omega) (by omega)]; omega
    rw [packthreadkeep_sameBytes.l0, if_pos (by omega), if_pos (by omega), if_pos (by omega), if_pos rfl, hw1]
    exact ih (i + 1) k (by omega) (by omega)
theorem sameb_eq (k : Nat) (l : List Int) (hL : l.length ≤ 100000) (hk : l.length < k) : packthreadkeep_sameBytes.f k l l = some true := by
  unfold packthreadkeep_sameBytes.f
  rw [if_pos rfl]
  exact sameb_l0 l hL l.length 0 k (by omega) (by omega)
theorem samel_l0 (l : List (List Int)) (hL : l.length ≤ 100000) (hb : ∀ b, b ∈ l → b.length ≤ 1000) : ∀ (m i k : Nat), i + m = l.length → m + 1100 < k → packthreadkeep_sameLists.l0 k l l (i : Int) = some true := by
  intro m
  induction m with
  | zero =>
    intro i k hi hk
    obtain ⟨k, rfl⟩ : ∃ q, k = q + 1 := ⟨k - 1, by omega⟩
    rw [packthreadkeep_sameLists.l0, if_neg (by omega)]
  | succ m ih =>
    intro i k hi hk
    obtain ⟨k, rfl⟩ : ∃ q, k = q + 1 := ⟨k - 1, by omega⟩
    have hw1 : wrap64 ((i : Int) + 1) = ((i + 1 : Nat) : Int) := by rw [wrap64_id (by omega) (by omega)]; omega
    have h1 := hb _ (List.getElem_mem (by omega : i < l.length))
    rw [packthreadkeep_sameLists.l0, if_pos (by omega), if_pos (by omega), if_pos (by omega), rdL1 l i (by omega), sameb_eq _ _ (by omega) (by omega), Option.bind_some, if_pos rfl, hw1]
    exact ih (i + 1) k (by omega) (by omega)
theorem samel_eq (k : Nat) (l : List (List Int)) (hL : l.length ≤ 1000) (hb : ∀ b, b ∈ l → b.length ≤ 1000) (hk : 2200 < k) : packthreadkeep_sameLists.f k l l = some true := by
  unfold packthreadkeep_sameLists.f
  rw [if_pos rfl]
  exact samel_l0 l (by omega) hb l.length 0 k (by omega) (by omega)

theorem feed_all (k : Nat) (bs : List (List Int)) (r : List Int) (hb : ∀ b, b ∈ bs → b.length ≤ 100) (hn : bs.length ≤ 100) (hk : 300 < k) (hr : r.length < 1000) (h : r.length < 4 ∨ ∃ m : Nat, m ≤ 1024 ∧ r.take 4 = hd4 m ∧ r.length < 4 + m) :
    frame_Feed.f k [] (encF bs ++ r) = some (bs, r, 0) := by
  have he := encF_len bs hb
  unfold frame_Feed.f
  rw [if_neg (by decide), concat2 k _ _ (by simp) (by rw [List.length_append]; omega) (by omega), Option.bind_some, List.nil_append]
  obtain ⟨k2, rfl⟩ : ∃ q, k = q + bs.length := ⟨k - bs.length, by omega⟩
  rw [feed_enc bs k2 r [] (fun b h => by have := hb b h; omega) (by omega) (by simp; omega) (by omega), List.nil_append, feed_end k2 r bs (by omega) (by omega) h]

theorem hd4_inj (a b : Nat) (ha : a ≤ 1024) (hb : b ≤ 1024) (h : hd4 a = hd4 b) : a = b := by
  unfold hd4 at h
  simp only [List.cons.injEq] at h
  obtain ⟨_, _, h3, h4, _⟩ := h
  omega
def Part (r : List Int) : Prop := r.length < 4 ∨ ∃ m : Nat, m ≤ 1024 ∧ r.take 4 = hd4 m ∧ r.length < 4 + m
theorem cut_frames : ∀ (todo : List (List Int)) (s t : List Int), (∀ b, b ∈ todo → b.length ≤ 100) → s ++ t = encF todo → ∃ (dn : List (List Int)) (rest : List (List Int)) (r : List Int), todo = dn ++ rest ∧ s = encF dn ++ r ∧ r ++ t = encF rest ∧ r.length < 104 ∧ Part r
  | [], s, t, _, h => by
    have h0 : s = [] := (List.append_eq_nil_iff.1 h).1
    exact ⟨[], [], s, rfl, rfl, h, by rw [h0]; decide, .inl (by rw [h0]; decide)⟩
  | b :: T, s, t, hb, h => by
    have hl := hb b List.mem_cons_self
    by_cases c : s.length < 4 + b.length
    · refine ⟨[], b :: T, s, rfl, rfl, h, by omega, ?_⟩
      by_cases c4 : s.length < 4
      · exact .inl c4
      · refine .inr ⟨b.length, by omega, ?_, c⟩
        have e : (s ++ t).take 4 = s.take 4 := List.take_append_of_le_length (by omega)
        rw [← e, h]
        simp only [encF, List.append_assoc]
        rw [List.take_left' (hd4_len _)]
    · simp only [encF] at h
      have hx : (hd4 b.length ++ b).length = 4 + b.length := by rw [List.length_append, hd4_len]
      have e1 : (s ++ t).take (4 + b.length) = s.take (4 + b.length) := List.take_append_of_le_length (by omega)
      have e2 : (s ++ t).drop (4 + b.length) = s.drop (4 + b.length) ++ t := List.drop_append_of_le_length (by omega)
      rw [h, List.take_left' hx] at e1
      rw [h, List.drop_left' hx] at e2
      obtain ⟨dn, rest, r, g1, g2, g3, g4, g5⟩ := cut_frames T (s.drop (4 + b.length)) t (fun x hx => hb x (List.mem_cons_of_mem _ hx)) e2.symm
      refine ⟨b :: dn, rest, r, by rw [g1]; rfl, ?_, g3, g4, g5⟩
      rw [← List.take_append_drop (4 + b.length) s, ← e1, g2]
      simp only [encF, List.append_assoc]
theorem part_end (todo : List (List Int)) (r : List Int) (hb : ∀ b, b ∈ todo → b.length ≤ 100) (h : r = encF todo) (hp : Part r) : todo = [] := by
  cases todo with
  | nil => rfl
  | cons b T =>
    exfalso
    have hl := hb b List.mem_cons_self
    simp only [encF] at h
    have e : r.length = 4 + b.length + (encF T).length := by rw [h]; simp only [List.length_append, hd4_len]
    rcases hp with h1 | ⟨m, h1, h2, h3⟩
    · omega
    · rw [h, List.append_assoc, List.take_left' (hd4_len _)] at h2
      have := hd4_inj _ _ (by omega) h1 h2
      omega
theorem feed_cut (k : Nat) (held c t : List Int) (todo : List (List Int)) (hb : ∀ b, b ∈ todo → b.length ≤ 100) (hn : todo.length ≤ 100) (hk : 300 < k) (hh : held.length < 104) (hc : c.length < 3000) (h : held ++ c ++ t = encF todo) :
    ∃ (dn : List (List Int)) (rest : List (List Int)) (r : List Int), todo = dn ++ rest ∧ r ++ t = encF rest ∧ r.length < 104 ∧ Part r ∧ frame_Feed.f k held c = some (dn, r, 0) := by
  obtain ⟨dn, rest, r, g1, g2, g3, g4, g5⟩ := cut_frames todo (held ++ c) t hb h
  refine ⟨dn, rest, r, g1, g3, g4, g5, ?_⟩
  have hdn : ∀ b, b ∈ dn → b.length ≤ 100 := fun b hx => hb b (by rw [g1]; exact List.mem_append_left _ hx)
  have hdl : dn.length ≤ 100 := by rw [g1, List.length_append] at hn; omega
  have he := encF_len dn hdn
  unfold frame_Feed.f
  rw [if_neg (by omega), concat2 k _ _ (by omega) (by omega) (by omega), Option.bind_some, g2]
  obtain ⟨k2, rfl⟩ : ∃ q, k = q + dn.length := ⟨k - dn.length, by omega⟩
  rw [feed_enc dn k2 r [] (fun b h => by have := hdn b h; omega) (by omega) (by simp; omega) (by omega), List.nil_append, feed_end k2 r dn (by omega) (by omega) g5]
theorem cuts_l0 (cuts b : List Int) (all : List (List Int)) (hb : ∀ x, x ∈ all → x.length ≤ 100) (hn : all.length ≤ 20) (hbl : b.length ≤ 2080) :
    ∀ (m at_ i k : Nat) (got todo : List (List Int)) (held : List Int), at_ + m = b.length → i ≤ at_ → m + 3000 < k → all = got ++ todo → held ++ b.drop at_ = encF todo → held.length < 104 → Part held →
      packthreadkeep_FrameCuts.l0 k cuts b all got held (at_ : Int) (i : Int) = some true := by
  intro m
  induction m using Nat.strongRecOn with
  | ind m ih =>
    intro at_ i k got todo held ha hi hk hall henc hh hp
    obtain ⟨k, rfl⟩ : ∃ q, k = q + 1 := ⟨k - 1, by omega⟩
    have htodo : ∀ x, x ∈ todo → x.length ≤ 100 := fun x hx => hb x (by rw [hall]; exact List.mem_append_right _ hx)
    have hgl : got.length + todo.length ≤ 20 := by rw [hall, List.length_append] at hn; exact hn
    rw [packthreadkeep_FrameCuts.l0]
    by_cases c : at_ < b.length
    · have step : ∀ n : Int, 1 ≤ n → n ≤ 40 →
          (if 0 ≤ (at_ : Int) then (if (at_ : Int) ≤ (mn (wrap64 ((at_ : Int) + n)) (b.length : Int)) then (if (mn (wrap64 ((at_ : Int) + n)) (b.length : Int)) ≤ (b.length : Int) then ((frame_Feed.f k held ((b.take ((mn (wrap64 ((at_ : Int) + n)) (b.length : Int)) : Int).toNat).drop ((at_ : Int) : Int).toNat)).bind fun bt200 => (if bt200.2.2 = 0 then (if got.length + bt200.1.length < 5864062014805 then (packthreadkeep_FrameCuts.l0 k cuts b all (got ++ bt200.1) bt200.2.1 (mn (wrap64 ((at_ : Int) + n)) (b.length : Int)) (wrap64 ((i : Int) + 1))) else (none)) else (some false))) else (none)) else (none)) else (none)) = some true := by
        intro n h1 h2
        rw [wrap64_id (x := (at_ : Int) + n) (by omega) (by omega), wrap64_id (x := (i : Int) + 1) (by omega) (by omega)]
        obtain ⟨en, e, hto1, hto2⟩ : ∃ en : Nat, mn ((at_ : Int) + n) (b.length : Int) = (en : Int) ∧ at_ < en ∧ en ≤ b.length := by
          unfold mn
          split
          · exact ⟨b.length, by omega, by omega, by omega⟩
          · exact ⟨(at_ + n.toNat), by omega, by omega, by omega⟩
        rw [e, if_pos (by omega), if_pos (by omega), if_pos (by omega), Int.toNat_natCast, Int.toNat_natCast]
        have hcut : held ++ (b.take en).drop at_ ++ b.drop en = encF todo := by
          rw [← henc, List.append_assoc]
          congr 1
          rw [List.drop_take]
          have : b.drop en = (b.drop at_).drop (en - at_) := by rw [List.drop_drop]; congr 1; omega
          rw [this, List.take_append_drop]
        obtain ⟨dn, rest, r, g1, g2, g3, g4, g5⟩ := feed_cut k held ((b.take en).drop at_) (b.drop en) todo htodo (by omega) (by omega) hh (by rw [List.length_drop, List.length_take]; omega) hcut
        rw [g5, Option.bind_some]
        have hd : dn.length ≤ 20 := by rw [g1, List.length_append] at hgl; omega
        show (if (0 : Int) = 0 then (if got.length + dn.length < 5864062014805 then packthreadkeep_FrameCuts.l0 k cuts b all (got ++ dn) r (en : Int) ((i : Int) + 1) else none) else some false) = some true
        rw [if_pos rfl, if_pos (by omega), show (i : Int) + 1 = ((i + 1 : Nat) : Int) by omega]
        exact ih (b.length - en) (by omega) en (i + 1) k (got ++ dn) rest r (by omega) (by omega) (by omega) (by rw [hall, g1, List.append_assoc]) g2 g3 g4
      rw [if_pos (by omega)]
      by_cases c2 : (i : Int) < (cuts.length : Int)
      · have hlo := Int.emod_nonneg (rd cuts (i : Int)) (show (40 : Int) ≠ 0 by omega)
        have hhi := Int.emod_lt_of_pos (rd cuts (i : Int)) (show (0 : Int) < 40 by omega)
        rw [if_pos c2, if_pos (by omega), picked_eq _ _ (by decide) (by decide), Option.bind_some, wrap64_id (x := 1 + rd cuts (i : Int) % 40) (by omega) (by omega)]
        exact step _ (by omega) (by omega)
      · rw [if_neg c2]
        exact step 7 (by omega) (by omega)
    · rw [if_neg (by omega)]
      have hd : b.drop at_ = [] := List.drop_eq_nil_of_le (by omega)
      rw [hd, List.append_nil] at henc
      have ht := part_end todo held htodo henc hp
      subst ht
      rw [List.append_nil] at hall
      subst hall
      rw [samel_eq k all (by omega) (fun x hx => by have := hb x hx; omega) (by omega), Option.bind_some, if_pos rfl, henc]
      rfl
theorem FrameCuts : packthreadkeep_FrameCuts.Pure := by
  intro l0 l1 hm _ _ _ _
  obtain ⟨k, hk⟩ : ∃ k, 9000 ≤ k := ⟨9000, Nat.le_refl _⟩
  refine ⟨k, ?_⟩
  have hc := cut_len l0 20
  have hcl : (cut100 l0 20).length ≤ 20 := by unfold cut100; rw [List.length_map, List.length_take]; omega
  unfold packthreadkeep_FrameCuts.f
  rw [show (20 : Int) = ((20 : Nat) : Int) from rfl, wrapped_eq k l0 20 (by decide) hm (by omega), Option.bind_some, wrap_eq k [9] (by decide) (by omega), Option.bind_some]
  show (if true = true then (if (0 : Int) = 0 then packthreadkeep_FrameCuts.j0 k l1 (encF (cut100 l0 20)) (cut100 l0 20) false else _) else _) = some true
  rw [if_pos rfl, if_pos rfl]
  have he := encF_len _ hc
  generalize cut100 l0 20 = bs at *
  obtain ⟨k, rfl⟩ : ∃ q, k = q + 1 := ⟨k - 1, by omega⟩
  rw [packthreadkeep_FrameCuts.j0, if_neg (by decide)]
  exact cuts_l0 l1 (encF bs) bs hc hcl (by omega) (encF bs).length 0 0 k [] bs [] (by omega) (by omega) (by omega) rfl rfl (by decide) (.inl (by decide))

end Go.Proofs.Ytknpmpfcmgjpdaa.Pure
