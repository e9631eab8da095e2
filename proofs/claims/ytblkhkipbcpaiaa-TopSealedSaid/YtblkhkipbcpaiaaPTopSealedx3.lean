/- Printed by a program of this session (wip/myprint.py): Go functions of the law as Lean functions, and the proof that the code comes to these answers. -/
import Derived.Test.YtblkhkipbcpaiaaPTopSealedx0
import Derived.Test.YtblkhkipbcpaiaaPTopSealedx1
import Derived.Test.YtblkhkipbcpaiaaPTopSealedx2
namespace Go.Proofs.Ytblkhkipbcpaiaa.PTopSealed
open Go.RowKit Go.Proofs.YtblkhkipbcpaiaaW.PrintWords Go.Proofs.YtblkhkipbcpaiaaW.PrintLast Go.Proofs.YtblkhkipbcpaiaaW.PrintMore
attribute [local go_sem] max2_int min2_int max_two min_two max_three min_three max_four min_four   -- for this text's walks alone
attribute [local go_sem] pn_setCell_drewN
set_option linter.unusedVariables false
set_option linter.unusedSimpArgs false

/-! ### seg_Decode: function 10, by hand -/
/-- two bytes as a number -/
def wd (l : List Int) (n : Nat) : Int := Go.bits .or .i64 (rd l (n : Int) * 256) (rd l ((n : Int) + 1))
def blankF (l : List Int) : List Int := (l.set 8 0).set 9 0
def OctL (l : List Int) : Prop := ∀ i : Nat, 0 ≤ rd l (i : Int) ∧ rd l (i : Int) ≤ 255
set_option maxHeartbeats 4000000 in
set_option maxRecDepth 100000 in
theorem word_calls (n bb : Nat) (A : Option Addr) (c : Nat) (l : List Int) (w : World) (hO : w.heap[bb]? = some (.cells #[.slice A l.length c] 23 (0, 0))) (hC : Kd.C (Kd.int .u8) w A l.length l) (hn : n + 1 < l.length) (hl : l.length ≤ 140737488351232) (hby : OctL l) :
    Calls Try.prog 24 #[.int .i64 (n : Int), .pointer (some ⟨bb, 0, none⟩)] w fun e w' => e = .returned (.int .i64 (wd l n)) ∧ Drawn0 w w' := by
  have t0 : w.cell? ⟨bb, 0, none⟩ = some (.slice A l.length c) := by rw [blk_cell hO]; rfl
  obtain ⟨ad, rfl, h0⟩ := Kd.at_int hC (n : Int) (by omega) (by omega)
  obtain ⟨ad', he, h1⟩ := Kd.at_int hC ((n : Int) + 1) (by omega) (by omega)
  cases he
  rw [Int.toNat_natCast] at h0
  rw [show ((n : Int) + 1).toNat = n + 1 by omega] at h1
  obtain ⟨x, hx⟩ : ∃ x, rd l (n : Int) = x := ⟨_, rfl⟩
  obtain ⟨y, hy⟩ : ∃ y, rd l ((n : Int) + 1) = y := ⟨_, rfl⟩
  rw [hx] at h0
  rw [hy] at h1
  rw [show wd l n = Go.bits .or .i64 (x * 256) y by unfold wd; rw [hx, hy]]
  have bx := hby n
  have by' := hby (n + 1)
  rw [hx] at bx
  rw [show ((n + 1 : Nat) : Int) = (n : Int) + 1 by omega, hy] at by'
  have hw1 : IntKind.i64.wrap ((n : Int) + 1) = (n : Int) + 1 := by simp only [i64_w]; unfold wrap64; omega
  have hw2 : IntKind.i64.wrap x = x := by simp only [i64_w]; unfold wrap64; omega
  have hw3 : IntKind.i64.wrap (x * 256) = x * 256 := by simp only [i64_w]; unfold wrap64; omega
  have hw4 : IntKind.i64.wrap y = y := by simp only [i64_w]; unfold wrap64; omega
  have hn2 : 0 ≤ (n : Int) + 1 := by omega
  have hn3 : ((n : Int) + 1).toNat = n + 1 := by omega
  have hn0 : n < l.length := by omega
  have hn1 : (n : Int) + 1 < (l.length : Int) := by omega
  have h1' : w.cell? ⟨ad.block, ad.off + (n + 1), none⟩ = some (.int .u8 y) := h1
  clear hx hy hO hC
  go_enter Try.func24, Try.ntmps24
  go_upto_region 1 with (fail)
  go_quiet (fail)
  go_wp2
  go_ret
  exact ⟨rfl, ⟨⟨nq, rfl⟩⟩⟩
def bt (l : List Int) (i : Nat) : Bool := if i = 0 then Go.bits .and .u8 (rd l 6) 1 == 1 else if i = 1 then Go.bits .and .u8 (rd l 6 / 2) 1 == 1 else if i = 2 then Go.bits .and .u8 (rd l 6 / 4) 1 == 1 else Go.bits .and .u8 (rd l 6 / 8) 1 == 1
def dS (l : List Int) (n : Nat) : List S52 := (List.range n).map fun j => ⟨wd l (10 + 4 * j), wd l (10 + 4 * j + 2)⟩
abbrev SegT := Int × Int × Int × Bool × Bool × Bool × Bool × List S52 × List Int × Int
def zSeg (e : Int) : SegT := (0, 0, 0, false, false, false, false, [], [], e)
def decF (sm : Int) (l : List Int) : SegT :=
  if sm ≠ wd l 8 then zSeg 6
  else if 16 ≤ rd l 6 ∨ l.length < 10 + 4 * (rd l 7).toNat then zSeg 4
  else if faultF (wd l 2) (wd l 4) (bt l 3) (rd l 7).toNat (l.length - (10 + 4 * (rd l 7).toNat)) ≠ 0 then zSeg 4
  else (wd l 0, wd l 2, wd l 4, bt l 0, bt l 1, bt l 2, bt l 3, dS l (rd l 7).toNat, l.drop (10 + 4 * (rd l 7).toNat), 0)
def DecPost (w : World) (r : SegT) (e : Ending) (w' : World) : Prop := ∃ v7 v8 : Value, e = .returned (.tuple #[.agg #[.int .i64 r.1, .int .i64 r.2.1, .int .i64 r.2.2.1, .bool r.2.2.2.1, .bool r.2.2.2.2.1, .bool r.2.2.2.2.2.1, .bool r.2.2.2.2.2.2.1, v7, v8], .int .i64 r.2.2.2.2.2.2.2.2.2]) ∧ Kd.R k52 52 w' w.heap.size (fun _ => True) v7 r.2.2.2.2.2.2.2.1 ∧ Kd.R (Kd.int .u8) 5 w' w.heap.size (fun _ => True) v8 r.2.2.2.2.2.2.2.2.1 ∧ Below w.heap.size w w'
theorem z_post {w W : World} {e : Int} (hB : Below w.heap.size w W) : DecPost w (zSeg e) (.returned (.tuple #[.agg #[.int .i64 0, .int .i64 0, .int .i64 0, .bool false, .bool false, .bool false, .bool false, .slice none 0 0, .slice none 0 0], .int .i64 e])) W := by
  have h7 : Kd.R k52 52 W w.heap.size (fun _ => True) (.slice none 0 0) [] := Kd.R_nil _ _ _ _ _
  have h8 : Kd.R (Kd.int .u8) 5 W w.heap.size (fun _ => True) (.slice none 0 0) [] := Kd.R_nil _ _ _ _ _
  unfold DecPost zSeg
  dsimp only
  exact ⟨.slice none 0 0, .slice none 0 0, rfl, h7, h8, hB⟩
set_option maxHeartbeats 8000000 in
set_option maxRecDepth 100000 in
theorem seg_decode_short (A : Option Addr) (c : Nat) (l : List Int) (w : World) (hl : l.length < 10) :
    Calls Try.prog 10 #[.slice A l.length c] w (DecPost w (zSeg 5)) := by
  have hu26 := Try.underlying26
  have k0 : decide ((l.length : Int) < 10) = true := decide_eq_true (by omega)
  have hb := two_blocks_ w (Obj.cells #[.slice A l.length c] 23) (Obj.cells #[.int .i64 0, .int .i64 0, .int .i64 0, .bool false, .bool false, .bool false, .bool false, .slice none 0 0, .slice none 0 0] 26)
  have HB := Aside0.mk hb
  clear hb
  go_enter Try.func10, Try.ntmps10
  go_wp2
  exact bodyPost_ret (results_ct rfl _ _ (w.heap.size + 1) 26 _ (0, 0) _ rfl HB.out.2 Try.underlying26 rfl (by kernel_rfl)) rfl (z_post (below_alloc (below_alloc (Below.refl _ _) _) _))
theorem wd_eq (l : List Int) (hby : OctL l) (n : Nat) : wd l n = rd l (n : Int) * 256 + rd l ((n : Int) + 1) := by
  unfold wd
  have h0 := hby n
  have h1 := hby (n + 1)
  rw [show ((n + 1 : Nat) : Int) = (n : Int) + 1 by omega] at h1
  exact bits_join .i64 31 (by decide) (fun n h0 h1 => by rw [IntKind.wrap_i64]; omega) 8 _ _ (by omega) (by omega) (by omega) h1.1 (by omega) (by omega)
theorem wd_rng (l : List Int) (hby : OctL l) (n : Nat) : 0 ≤ wd l n ∧ wd l n < 65536 := by
  rw [wd_eq l hby n]
  have h0 := hby n
  have h1 := hby (n + 1)
  rw [show ((n + 1 : Nat) : Int) = (n : Int) + 1 by omega] at h1
  omega
theorem dS_ser (l : List Int) (hby : OctL l) (n : Nat) : ∀ r, r ∈ dS l n → SerR r := by
  intro r hr
  obtain ⟨j, _, rfl⟩ := List.mem_map.1 hr
  have h0 := wd_rng l hby (10 + 4 * j)
  have h1 := wd_rng l hby (10 + 4 * j + 2)
  exact ⟨h0.1, h0.2, h1.1, h1.2⟩
attribute [local go_sem] pn_setCell_drewN
attribute [local go_sem] idx55_0 idx55_1 idx55_2 idx55_3
set_option maxHeartbeats 8000000 in
set_option maxRecDepth 100000 in
theorem seg_decode_calls (k : Nat) (A : Option Addr) (c : Nat) (l : List Int) (sm : Int) (w : World) (hC : Kd.C (Kd.int .u8) w A l.length l) (hc : l.length ≤ c) (hl : 10 ≤ l.length) (hl2 : l.length ≤ 140737488351232) (hby : OctL l) (hsm : inet_Sum.f k (blankF l) = some sm) (r : SegT) (hr : decF sm l = r) :
    Calls Try.prog 10 #[.slice A l.length c] w (DecPost w r) := by
  have HRR := Aside0.mk hr
  clear hr
  have hu26 := Try.underlying26
  have hu52 := Try.underlying52
  have hu55 := Try.underlying55
  have k0 : decide ((l.length : Int) < 10) = false := decide_eq_false (by omega)
  have HCL := Aside0.mk (show slices_Clone_byte_byte.f l = some l by unfold slices_Clone_byte_byte.f; rw [Option.bind_some, if_pos (by simp; omega), List.nil_append])
  have HC := Aside0.mk hC
  have HBY := Aside0.mk hby
  have HSM := Aside0.mk hsm
  have HB2 := Aside0.mk (two_blocks_ w (Obj.cells #[.slice A l.length c] 23) (Obj.cells #[.int .i64 0, .int .i64 0, .int .i64 0, .bool false, .bool false, .bool false, .bool false, .slice none 0 0, .slice none 0 0] 26))
  clear hC hby hsm
  go_enter Try.func10, Try.ntmps10
  go_upto_region 3 with (fail)
  obtain ⟨W1, hW1⟩ : ∃ y, (w.alloc (Obj.cells #[.slice A l.length c] 23)).alloc (Obj.cells #[.int .i64 0, .int .i64 0, .int .i64 0, .bool false, .bool false, .bool false, .bool false, .slice none 0 0, .slice none 0 0] 26) = y := ⟨_, rfl⟩
  have hB1 : Below w.heap.size w W1 := by rw [← hW1]; exact below_alloc (below_alloc (Below.refl _ _) _) _
  have HB1 := Aside0.mk hB1
  rw [hW1] at HB2 ⊢
  have HC1 := Aside0.mk (Kd.C_below HC.out hB1)
  have t0 : W1.cell? ⟨w.heap.size, 0, none⟩ = some (.slice A l.length c) := by rw [blk_cell HB2.out.1]; rfl
  clear hW1 hB1
  go_upto_region 5 with (first
    | ((with_reducible refine gate_callee (f := 25) rfl ?_); refine goesL_ _ rfl rfl Try.func25 (by kernel_rfl) rfl #[.slice A l.length c] rfl (by (try simp only [List.map_toArray, List.map_cons, List.map_nil]); first | done | rfl) ?_; refine (slices_Clone_byte_byte.calls A c l l W1 HC1.out hc HCL.out).mono ?_; rintro e w5 ⟨v5, rfl, ho, hb5⟩; refine ⟨_, rfl, ?_⟩; have HO5 := Aside0.mk ho; have HB5 := Aside0.mk hb5; clear ho hb5))
  obtain ⟨g, c5, hv5, hg0, hgl, _⟩ := Kd.R_form HO5.out (by omega)
  subst hv5
  obtain ⟨x8, y8⟩ := Kd.R_celln 0 HO5.out 8 (by omega) (by omega)
  obtain ⟨x9, y9⟩ := Kd.R_celln 0 HO5.out 9 (by omega) (by omega)
  simp only [Int.reduceToNat] at x8 y8 x9 y9
  clear t0
  go_upto_region 6 with (fail)
  have h8 := (Kd.R_putg HO5.out 8 0).1
  have h9 := (Kd.R_putg h8 9 0).1
  have hbb := (HB5.out.setCell (p := ⟨g, 8, none⟩) hg0 (.int .u8 0)).setCell (p := ⟨g, 9, none⟩) hg0 (.int .u8 0)
  obtain ⟨W2, hW2⟩ : ∃ y, (w5.setCell ⟨g, 8, none⟩ (.int .u8 0)).setCell ⟨g, 9, none⟩ (.int .u8 0) = y := ⟨_, rfl⟩
  have HO6 : Aside0 (Kd.R (Kd.int .u8) 5 W2 W1.heap.size (fun _ => True) (.slice (some ⟨g, 0, none⟩) l.length c5) (blankF l)) := ⟨by rw [← hW2]; exact h9⟩
  have HB6 : Aside0 (Below W1.heap.size W1 W2) := ⟨by rw [← hW2]; exact hbb⟩
  rw [hW2]
  have hbl : (blankF l).length = l.length := by unfold blankF; rw [List.length_set, List.length_set]
  have HBL := Aside0.mk hbl
  have HBX := Aside0.mk (blk_below HB2.out.1 HB6.out)
  have HRS := Aside0.mk (blk_below HB2.out.2 HB6.out)
  have HC2 := Aside0.mk (Kd.C_below HC1.out HB6.out)
  obtain ⟨q0, hq0⟩ : ∃ q, wd l 0 = q := ⟨_, rfl⟩
  have HQ0 := Aside0.mk hq0
  have HW0 : Aside0 (∀ W, W.heap[w.heap.size]? = some (.cells #[.slice A l.length c] 23 (0, 0)) → Kd.C (Kd.int .u8) W A l.length l → Calls Try.prog 24 #[.int .i64 0, .pointer (some ⟨w.heap.size, 0, none⟩)] W fun e w' => e = .returned (.int .i64 q0) ∧ Drawn0 W w') := ⟨fun W h1 h2 => by rw [← hq0]; exact word_calls 0 w.heap.size A c l W h1 h2 (by omega) (by omega) HBY.out⟩
  clear hq0
  obtain ⟨q2, hq2⟩ : ∃ q, wd l 2 = q := ⟨_, rfl⟩
  have HQ2 := Aside0.mk hq2
  have HW2 : Aside0 (∀ W, W.heap[w.heap.size]? = some (.cells #[.slice A l.length c] 23 (0, 0)) → Kd.C (Kd.int .u8) W A l.length l → Calls Try.prog 24 #[.int .i64 2, .pointer (some ⟨w.heap.size, 0, none⟩)] W fun e w' => e = .returned (.int .i64 q2) ∧ Drawn0 W w') := ⟨fun W h1 h2 => by rw [← hq2]; exact word_calls 2 w.heap.size A c l W h1 h2 (by omega) (by omega) HBY.out⟩
  clear hq2
  obtain ⟨q4, hq4⟩ : ∃ q, wd l 4 = q := ⟨_, rfl⟩
  have HQ4 := Aside0.mk hq4
  have HW4 : Aside0 (∀ W, W.heap[w.heap.size]? = some (.cells #[.slice A l.length c] 23 (0, 0)) → Kd.C (Kd.int .u8) W A l.length l → Calls Try.prog 24 #[.int .i64 4, .pointer (some ⟨w.heap.size, 0, none⟩)] W fun e w' => e = .returned (.int .i64 q4) ∧ Drawn0 W w') := ⟨fun W h1 h2 => by rw [← hq4]; exact word_calls 4 w.heap.size A c l W h1 h2 (by omega) (by omega) HBY.out⟩
  clear hq4
  obtain ⟨q8, hq8⟩ : ∃ q, wd l 8 = q := ⟨_, rfl⟩
  have HQ8 := Aside0.mk hq8
  have HW8 : Aside0 (∀ W, W.heap[w.heap.size]? = some (.cells #[.slice A l.length c] 23 (0, 0)) → Kd.C (Kd.int .u8) W A l.length l → Calls Try.prog 24 #[.int .i64 8, .pointer (some ⟨w.heap.size, 0, none⟩)] W fun e w' => e = .returned (.int .i64 q8) ∧ Drawn0 W w') := ⟨fun W h1 h2 => by rw [← hq8]; exact word_calls 8 w.heap.size A c l W h1 h2 (by omega) (by omega) HBY.out⟩
  clear h8 h9 hbb hW2 hbl hq8 x8 y8 x9 y9
  go_wp2_with (first
    | ((with_reducible refine gate_callee (f := 23) rfl ?_); refine goesL_ _ rfl rfl Try.func23 (by kernel_rfl) rfl #[.slice (some ⟨g, 0, none⟩) l.length c5] rfl (by (try simp only [List.map_toArray, List.map_cons, List.map_nil]); first | done | rfl) ?_; have hcS := inet_Sum.calls k (some ⟨g, 0, none⟩) c5 (blankF l) sm W2 (Kd.R_reads' HO6.out).2.2 (by rw [HBL.out]; exact (Kd.R_reads' HO6.out).2.1) HSM.out; rw [HBL.out] at hcS; refine hcS.mono ?_; clear hcS; rintro e w19 ⟨rfl, hd⟩; refine ⟨_, rfl, ?_⟩; obtain ⟨⟨nq, rfl⟩⟩ := hd))
  refine (HW8.out _ (blk_drewN HBX.out _) (Kd.C_below HC2.out (pw_below_drewN (Below.refl _ _) _))).mono ?_
  rintro e w8 ⟨rfl, hd⟩
  obtain ⟨⟨nq8, rfl⟩⟩ := hd
  by_cases cs : sm = q8
  · have kcs : (sm != q8) = false := by rw [cs]; simp
    have HCS := Aside0.mk cs
    clear cs
    go_wp2_with (fail)
    refine (HW0.out _ (blk_drewN HBX.out _) (Kd.C_below HC2.out (pw_below_drewN (Below.refl _ _) _))).mono ?_
    rintro e w8 ⟨rfl, hd⟩
    obtain ⟨⟨n0, rfl⟩⟩ := hd
    go_wp2_with (fail)
    refine (HW2.out _ (blk_drewN HBX.out _) (Kd.C_below HC2.out (pw_below_drewN (Below.refl _ _) _))).mono ?_
    rintro e w8 ⟨rfl, hd⟩
    obtain ⟨⟨n2, rfl⟩⟩ := hd
    go_wp2_with (fail)
    refine (HW4.out _ (blk_drewN HBX.out _) (Kd.C_below HC2.out (pw_below_drewN (Below.refl _ _) _))).mono ?_
    rintro e w8 ⟨rfl, hd⟩
    obtain ⟨⟨n4, rfl⟩⟩ := hd
    have hz : ∀ n, ((W2.drewN n).alloc (Obj.cells #[.int .i64 0, .int .i64 0, .int .i64 0, .bool false, .bool false, .bool false, .bool false, .slice none 0 0, .slice none 0 0] 26)).heap[W2.heap.size]? = some (.cells #[.int .i64 0, .int .i64 0, .int .i64 0, .bool false, .bool false, .bool false, .bool false, .slice none 0 0, .slice none 0 0] 26 (0, 0)) := fun n => blk_new (W2.drewN n) _
    have s0 : ∀ n, ((W2.drewN n).alloc (Obj.cells #[.int .i64 0, .int .i64 0, .int .i64 0, .bool false, .bool false, .bool false, .bool false, .slice none 0 0, .slice none 0 0] 26)).cell? ⟨W2.heap.size, 0, none⟩ = some (.int .i64 0) := fun n => by rw [blk_cell (hz n)]; rfl
    have e0 : ∀ n, ((W2.drewN n).alloc (Obj.cells #[.int .i64 0, .int .i64 0, .int .i64 0, .bool false, .bool false, .bool false, .bool false, .slice none 0 0, .slice none 0 0] 26)).frozen? ⟨W2.heap.size, 0, none⟩ = false := fun n => blk_frozen (hz n) 0
    have s1 : ∀ n, ((W2.drewN n).alloc (Obj.cells #[.int .i64 0, .int .i64 0, .int .i64 0, .bool false, .bool false, .bool false, .bool false, .slice none 0 0, .slice none 0 0] 26)).cell? ⟨W2.heap.size, 1, none⟩ = some (.int .i64 0) := fun n => by rw [blk_cell (hz n)]; rfl
    have e1 : ∀ n, ((W2.drewN n).alloc (Obj.cells #[.int .i64 0, .int .i64 0, .int .i64 0, .bool false, .bool false, .bool false, .bool false, .slice none 0 0, .slice none 0 0] 26)).frozen? ⟨W2.heap.size, 1, none⟩ = false := fun n => blk_frozen (hz n) 1
    have s2 : ∀ n, ((W2.drewN n).alloc (Obj.cells #[.int .i64 0, .int .i64 0, .int .i64 0, .bool false, .bool false, .bool false, .bool false, .slice none 0 0, .slice none 0 0] 26)).cell? ⟨W2.heap.size, 2, none⟩ = some (.int .i64 0) := fun n => by rw [blk_cell (hz n)]; rfl
    have e2 : ∀ n, ((W2.drewN n).alloc (Obj.cells #[.int .i64 0, .int .i64 0, .int .i64 0, .bool false, .bool false, .bool false, .bool false, .slice none 0 0, .slice none 0 0] 26)).frozen? ⟨W2.heap.size, 2, none⟩ = false := fun n => blk_frozen (hz n) 2
    have s3 : ∀ n, ((W2.drewN n).alloc (Obj.cells #[.int .i64 0, .int .i64 0, .int .i64 0, .bool false, .bool false, .bool false, .bool false, .slice none 0 0, .slice none 0 0] 26)).cell? ⟨W2.heap.size, 3, none⟩ = some (.bool false) := fun n => by rw [blk_cell (hz n)]; rfl
    have e3 : ∀ n, ((W2.drewN n).alloc (Obj.cells #[.int .i64 0, .int .i64 0, .int .i64 0, .bool false, .bool false, .bool false, .bool false, .slice none 0 0, .slice none 0 0] 26)).frozen? ⟨W2.heap.size, 3, none⟩ = false := fun n => blk_frozen (hz n) 3
    have s4 : ∀ n, ((W2.drewN n).alloc (Obj.cells #[.int .i64 0, .int .i64 0, .int .i64 0, .bool false, .bool false, .bool false, .bool false, .slice none 0 0, .slice none 0 0] 26)).cell? ⟨W2.heap.size, 4, none⟩ = some (.bool false) := fun n => by rw [blk_cell (hz n)]; rfl
    have e4 : ∀ n, ((W2.drewN n).alloc (Obj.cells #[.int .i64 0, .int .i64 0, .int .i64 0, .bool false, .bool false, .bool false, .bool false, .slice none 0 0, .slice none 0 0] 26)).frozen? ⟨W2.heap.size, 4, none⟩ = false := fun n => blk_frozen (hz n) 4
    have s5 : ∀ n, ((W2.drewN n).alloc (Obj.cells #[.int .i64 0, .int .i64 0, .int .i64 0, .bool false, .bool false, .bool false, .bool false, .slice none 0 0, .slice none 0 0] 26)).cell? ⟨W2.heap.size, 5, none⟩ = some (.bool false) := fun n => by rw [blk_cell (hz n)]; rfl
    have e5 : ∀ n, ((W2.drewN n).alloc (Obj.cells #[.int .i64 0, .int .i64 0, .int .i64 0, .bool false, .bool false, .bool false, .bool false, .slice none 0 0, .slice none 0 0] 26)).frozen? ⟨W2.heap.size, 5, none⟩ = false := fun n => blk_frozen (hz n) 5
    have s6 : ∀ n, ((W2.drewN n).alloc (Obj.cells #[.int .i64 0, .int .i64 0, .int .i64 0, .bool false, .bool false, .bool false, .bool false, .slice none 0 0, .slice none 0 0] 26)).cell? ⟨W2.heap.size, 6, none⟩ = some (.bool false) := fun n => by rw [blk_cell (hz n)]; rfl
    have e6 : ∀ n, ((W2.drewN n).alloc (Obj.cells #[.int .i64 0, .int .i64 0, .int .i64 0, .bool false, .bool false, .bool false, .bool false, .slice none 0 0, .slice none 0 0] 26)).frozen? ⟨W2.heap.size, 6, none⟩ = false := fun n => blk_frozen (hz n) 6
    have s7 : ∀ n, ((W2.drewN n).alloc (Obj.cells #[.int .i64 0, .int .i64 0, .int .i64 0, .bool false, .bool false, .bool false, .bool false, .slice none 0 0, .slice none 0 0] 26)).cell? ⟨W2.heap.size, 7, none⟩ = some (.slice none 0 0) := fun n => by rw [blk_cell (hz n)]; rfl
    have e7 : ∀ n, ((W2.drewN n).alloc (Obj.cells #[.int .i64 0, .int .i64 0, .int .i64 0, .bool false, .bool false, .bool false, .bool false, .slice none 0 0, .slice none 0 0] 26)).frozen? ⟨W2.heap.size, 7, none⟩ = false := fun n => blk_frozen (hz n) 7
    have s8 : ∀ n, ((W2.drewN n).alloc (Obj.cells #[.int .i64 0, .int .i64 0, .int .i64 0, .bool false, .bool false, .bool false, .bool false, .slice none 0 0, .slice none 0 0] 26)).cell? ⟨W2.heap.size, 8, none⟩ = some (.slice none 0 0) := fun n => by rw [blk_cell (hz n)]; rfl
    have e8 : ∀ n, ((W2.drewN n).alloc (Obj.cells #[.int .i64 0, .int .i64 0, .int .i64 0, .bool false, .bool false, .bool false, .bool false, .slice none 0 0, .slice none 0 0] 26)).frozen? ⟨W2.heap.size, 8, none⟩ = false := fun n => blk_frozen (hz n) 8
    have HZ := Aside0.mk hz
    clear hz
    go_upto_region 9 with (fail)
    rw [put9_eq]
    have hs3 := put9_blk (HZ.out (nq + nq8 + n0 + n2 + n4)) (.int .i64 q0) (.int .i64 q2) (.int .i64 q4) (.bool false) (.bool false) (.bool false) (.bool false) (.slice none 0 0) (.slice none 0 0)
    have hb3 : Below W2.heap.size W2 (put9 ((W2.drewN (nq + nq8 + n0 + n2 + n4)).alloc (Obj.cells #[.int .i64 0, .int .i64 0, .int .i64 0, .bool false, .bool false, .bool false, .bool false, .slice none 0 0, .slice none 0 0] 26)) W2.heap.size (.int .i64 q0) (.int .i64 q2) (.int .i64 q4) (.bool false) (.bool false) (.bool false) (.bool false) (.slice none 0 0) (.slice none 0 0)) := put9_below (below_alloc (pw_below_drewN (Below.refl _ _) _) _) (Nat.le_refl _) (.int .i64 q0) (.int .i64 q2) (.int .i64 q4) (.bool false) (.bool false) (.bool false) (.bool false) (.slice none 0 0) (.slice none 0 0)
    obtain ⟨W3, hW3⟩ : ∃ y, put9 ((W2.drewN (nq + nq8 + n0 + n2 + n4)).alloc (Obj.cells #[.int .i64 0, .int .i64 0, .int .i64 0, .bool false, .bool false, .bool false, .bool false, .slice none 0 0, .slice none 0 0] 26)) W2.heap.size (.int .i64 q0) (.int .i64 q2) (.int .i64 q4) (.bool false) (.bool false) (.bool false) (.bool false) (.slice none 0 0) (.slice none 0 0) = y := ⟨_, rfl⟩
    rw [hW3] at hs3 hb3 ⊢
    have HS3 := Aside0.mk hs3
    have HB3 := Aside0.mk hb3
    clear hs3 hb3 hW3 s0 s1 s2 s3 s4 s5 s6 s7 s8 e0 e1 e2 e3 e4 e5 e6 e7 e8 HZ
    go_upto_block 0 with (first
      | ((with_reducible refine gate_callee (f := 22) rfl ?_); refine goesL_ _ rfl rfl Try.func22 (by kernel_rfl) rfl #[.pointer (some ⟨W2.heap.size, 0, none⟩)] rfl (by (try simp only [List.map_toArray, List.map_cons, List.map_nil]); first | done | rfl) ?_; refine (seg_flags_calls W2.heap.size W3).mono ?_; rintro e w9 ⟨rfl, hb9⟩; refine ⟨_, rfl, ?_⟩; have HB9 := Aside0.mk hb9; clear hb9))
    have HS9 := Aside0.mk (blk_below HS3.out HB9.out)
    have HB9' := Aside0.mk (below_then HB3.out HB3.out.size HB9.out)
    go_cut [] (fun wc => Aside0 (wc.heap[W2.heap.size]? = some (.cells #[.int .i64 q0, .int .i64 q2, .int .i64 q4, .bool (bt l 0), .bool (bt l 1), .bool (bt l 2), .bool (bt l 3), .slice none 0 0, .slice none 0 0] 26 (0, 0))) ∧ Aside0 (Below W2.heap.size W2 wc))
    case first =>
      go_wp2
      go_loopw [36] (fun v36 wr => ∃ j : Nat, j ≤ 4 ∧ v36 = .int .i64 (j : Int) ∧ Aside0 (wr.heap[W2.heap.size]? = some (.cells #[.int .i64 q0, .int .i64 q2, .int .i64 q4, .bool (decide (0 < j) && bt l 0), .bool (decide (1 < j) && bt l 1), .bool (decide (2 < j) && bt l 2), .bool (decide (3 < j) && bt l 3), .slice none 0 0, .slice none 0 0] 26 (0, 0))) ∧ Aside0 (Below W2.heap.size W2 wr)) (fun v36 _ => 4 - (intOf v36).toNat)
      case atStart => exact ⟨0, by omega, rfl, HS9, HB9'⟩
      case round =>
        obtain ⟨j, hj, rfl, HSR, HBR⟩ := hrel
        obtain ⟨wo, hwo⟩ : ∃ wo : World, wo = wr := ⟨_, rfl⟩
        subst hwo
        have hbx := blk_below HBX.out HBR.out
        have t0 : wo.cell? ⟨w.heap.size, 0, none⟩ = some (.slice A l.length c) := by rw [blk_cell hbx]; rfl
        obtain ⟨ad, rfl, x6⟩ := Kd.at_int (Kd.C_below HC2.out HBR.out) 6 (by omega) (by omega)
        obtain ⟨y6, hy6⟩ : ∃ y, rd l 6 = y := ⟨_, rfl⟩
        have hby := HBY.out 6
        rw [show ((6 : Nat) : Int) = 6 from rfl, hy6] at hby
        rw [hy6] at x6
        simp only [Int.reduceToNat] at x6
        have HY6 := Aside0.mk hy6
        have x6' : wo.cell? ⟨ad.block, ad.off + 6, none⟩ = some (.int .u8 y6) := x6
        have f3 := blk_frozen HSR.out 3
        have f4 := blk_frozen HSR.out 4
        have f5 := blk_frozen HSR.out 5
        have f6 := blk_frozen HSR.out 6
        clear hy6 hbx
        have h5 : j = 0 ∨ j = 1 ∨ j = 2 ∨ j = 3 ∨ j = 4 := by omega
        rcases h5 with rfl | rfl | rfl | rfl | rfl
        · have p3 : wo.cell? ⟨W2.heap.size, 3, none⟩ = some (.bool false) := by rw [blk_cell HSR.out]; rfl
          have HBT := Aside0.mk (show bt l 0 = (Go.bits .and .u8 y6 1 == 1) by rw [← HY6.out]; rfl)
          go_wp2
          exact ⟨⟨1, by omega, rfl, ⟨blk_put HSR.out 3 _ (by rw [← HBT.out]; rfl)⟩, ⟨HBR.out.setCell (p := ⟨W2.heap.size, 3, none⟩) (Nat.le_refl _) _⟩⟩, by simp [intOf]⟩
        · have p4 : wo.cell? ⟨W2.heap.size, 4, none⟩ = some (.bool false) := by rw [blk_cell HSR.out]; rfl
          have HBT := Aside0.mk (show bt l 1 = (Go.bits .and .u8 (y6 / 2) 1 == 1) by rw [← HY6.out]; rfl)
          go_wp2
          exact ⟨⟨2, by omega, rfl, ⟨blk_put HSR.out 4 _ (by rw [← HBT.out]; rfl)⟩, ⟨HBR.out.setCell (p := ⟨W2.heap.size, 4, none⟩) (Nat.le_refl _) _⟩⟩, by simp [intOf]⟩
        · have p5 : wo.cell? ⟨W2.heap.size, 5, none⟩ = some (.bool false) := by rw [blk_cell HSR.out]; rfl
          have HBT := Aside0.mk (show bt l 2 = (Go.bits .and .u8 (y6 / 4) 1 == 1) by rw [← HY6.out]; rfl)
          go_wp2
          exact ⟨⟨3, by omega, rfl, ⟨blk_put HSR.out 5 _ (by rw [← HBT.out]; rfl)⟩, ⟨HBR.out.setCell (p := ⟨W2.heap.size, 5, none⟩) (Nat.le_refl _) _⟩⟩, by simp [intOf]⟩
        · have p6 : wo.cell? ⟨W2.heap.size, 6, none⟩ = some (.bool false) := by rw [blk_cell HSR.out]; rfl
          have HBT := Aside0.mk (show bt l 3 = (Go.bits .and .u8 (y6 / 8) 1 == 1) by rw [← HY6.out]; rfl)
          go_wp2
          exact ⟨⟨4, by omega, rfl, ⟨blk_put HSR.out 6 _ (by rw [← HBT.out]; rfl)⟩, ⟨HBR.out.setCell (p := ⟨W2.heap.size, 6, none⟩) (Nat.le_refl _) _⟩⟩, by simp [intOf]⟩
        · go_wp2
          go_meet
          case rel => exact ⟨HSR, HBR⟩
    case rest =>
      obtain ⟨HS4, HB4⟩ := hcut
      obtain ⟨W4, hW4⟩ : ∃ y : World, y = wc := ⟨_, rfl⟩
      subst hW4
      have hbx := blk_below HBX.out HB4.out
      have t0 : W4.cell? ⟨w.heap.size, 0, none⟩ = some (.slice A l.length c) := by rw [blk_cell hbx]; rfl
      obtain ⟨ad, rfl, x6⟩ := Kd.at_int (Kd.C_below HC2.out HB4.out) 6 (by omega) (by omega)
      obtain ⟨ad', he, x7⟩ := Kd.at_int (Kd.C_below HC2.out HB4.out) 7 (by omega) (by omega)
      cases he
      obtain ⟨y6, hy6⟩ : ∃ y, rd l 6 = y := ⟨_, rfl⟩
      obtain ⟨y7, hy7⟩ : ∃ y, rd l 7 = y := ⟨_, rfl⟩
      have hb6 := HBY.out 6
      have hb7 := HBY.out 7
      rw [show ((6 : Nat) : Int) = 6 from rfl, hy6] at hb6
      rw [show ((7 : Nat) : Int) = 7 from rfl, hy7] at hb7
      rw [hy6] at x6
      rw [hy7] at x7
      simp only [Int.reduceToNat] at x6 x7
      have x6' : W4.cell? ⟨ad.block, ad.off + 6, none⟩ = some (.int .u8 y6) := x6
      have x7' : W4.cell? ⟨ad.block, ad.off + 7, none⟩ = some (.int .u8 y7) := x7
      have HY6 := Aside0.mk hy6
      have HY7 := Aside0.mk hy7
      obtain ⟨n7, hn7⟩ : ∃ n : Nat, y7 = (n : Int) := ⟨y7.toNat, by omega⟩
      subst hn7
      clear hy6 hy7 hbx
      have HRS4 := Aside0.mk (blk_below HRS.out HB4.out)
      have HBW4 := Aside0.mk ((HB1.out.trans (HB6.out.mono HB1.out.size)).trans (HB4.out.mono (by have := HB1.out.size; have := HB6.out.size; omega)))
      go_upto_region 15 with (fail)
      by_cases c6 : 16 ≤ y6
      · have k6 : decide (y6 ≥ 16) = true := decide_eq_true c6
        have r0 : W4.cell? ⟨w.heap.size + 1, 0, none⟩ = some (.int .i64 0) := by rw [blk_cell HRS4.out]; rfl
        have z0 := blk_frozen HRS4.out 0
        have r1 : W4.cell? ⟨w.heap.size + 1, 1, none⟩ = some (.int .i64 0) := by rw [blk_cell HRS4.out]; rfl
        have z1 := blk_frozen HRS4.out 1
        have r2 : W4.cell? ⟨w.heap.size + 1, 2, none⟩ = some (.int .i64 0) := by rw [blk_cell HRS4.out]; rfl
        have z2 := blk_frozen HRS4.out 2
        have r3 : W4.cell? ⟨w.heap.size + 1, 3, none⟩ = some (.bool false) := by rw [blk_cell HRS4.out]; rfl
        have z3 := blk_frozen HRS4.out 3
        have r4 : W4.cell? ⟨w.heap.size + 1, 4, none⟩ = some (.bool false) := by rw [blk_cell HRS4.out]; rfl
        have z4 := blk_frozen HRS4.out 4
        have r5 : W4.cell? ⟨w.heap.size + 1, 5, none⟩ = some (.bool false) := by rw [blk_cell HRS4.out]; rfl
        have z5 := blk_frozen HRS4.out 5
        have r6 : W4.cell? ⟨w.heap.size + 1, 6, none⟩ = some (.bool false) := by rw [blk_cell HRS4.out]; rfl
        have z6 := blk_frozen HRS4.out 6
        have r7 : W4.cell? ⟨w.heap.size + 1, 7, none⟩ = some (.slice none 0 0) := by rw [blk_cell HRS4.out]; rfl
        have z7 := blk_frozen HRS4.out 7
        have r8 : W4.cell? ⟨w.heap.size + 1, 8, none⟩ = some (.slice none 0 0) := by rw [blk_cell HRS4.out]; rfl
        have z8 := blk_frozen HRS4.out 8
        have HD := Aside0.mk (show decF sm l = zSeg 4 by unfold decF; rw [if_neg (fun h => h (HCS.out.trans HQ8.out.symm))]; rw [if_pos (.inl (by rw [HY6.out]; exact c6))])
        go_wp2
        rw [put9_eq]
        have hb := put9_blk HRS4.out (.int .i64 0) (.int .i64 0) (.int .i64 0) (.bool false) (.bool false) (.bool false) (.bool false) (.slice none 0 0) (.slice none 0 0)
        have hbw := put9_below (g := w.heap.size + 1) HBW4.out (by omega) (.int .i64 0) (.int .i64 0) (.int .i64 0) (.bool false) (.bool false) (.bool false) (.bool false) (.slice none 0 0) (.slice none 0 0)
        have HRZ := HRR.out.symm.trans HD.out
        subst HRZ
        exact bodyPost_ret (results_ct rfl _ _ (w.heap.size + 1) 26 _ (0, 0) _ rfl hb Try.underlying26 rfl (by kernel_rfl)) rfl (z_post hbw)
      · have k6 : decide (y6 ≥ 16) = false := decide_eq_false c6
        by_cases c7 : l.length < 10 + 4 * n7
        · have k7 : decide ((l.length : Int) < 10 + 4 * (n7 : Int)) = true := decide_eq_true (by omega)
          have r0 : W4.cell? ⟨w.heap.size + 1, 0, none⟩ = some (.int .i64 0) := by rw [blk_cell HRS4.out]; rfl
          have z0 := blk_frozen HRS4.out 0
          have r1 : W4.cell? ⟨w.heap.size + 1, 1, none⟩ = some (.int .i64 0) := by rw [blk_cell HRS4.out]; rfl
          have z1 := blk_frozen HRS4.out 1
          have r2 : W4.cell? ⟨w.heap.size + 1, 2, none⟩ = some (.int .i64 0) := by rw [blk_cell HRS4.out]; rfl
          have z2 := blk_frozen HRS4.out 2
          have r3 : W4.cell? ⟨w.heap.size + 1, 3, none⟩ = some (.bool false) := by rw [blk_cell HRS4.out]; rfl
          have z3 := blk_frozen HRS4.out 3
          have r4 : W4.cell? ⟨w.heap.size + 1, 4, none⟩ = some (.bool false) := by rw [blk_cell HRS4.out]; rfl
          have z4 := blk_frozen HRS4.out 4
          have r5 : W4.cell? ⟨w.heap.size + 1, 5, none⟩ = some (.bool false) := by rw [blk_cell HRS4.out]; rfl
          have z5 := blk_frozen HRS4.out 5
          have r6 : W4.cell? ⟨w.heap.size + 1, 6, none⟩ = some (.bool false) := by rw [blk_cell HRS4.out]; rfl
          have z6 := blk_frozen HRS4.out 6
          have r7 : W4.cell? ⟨w.heap.size + 1, 7, none⟩ = some (.slice none 0 0) := by rw [blk_cell HRS4.out]; rfl
          have z7 := blk_frozen HRS4.out 7
          have r8 : W4.cell? ⟨w.heap.size + 1, 8, none⟩ = some (.slice none 0 0) := by rw [blk_cell HRS4.out]; rfl
          have z8 := blk_frozen HRS4.out 8
          have HD := Aside0.mk (show decF sm l = zSeg 4 by unfold decF; rw [if_neg (fun h => h (HCS.out.trans HQ8.out.symm))]; rw [if_pos (.inr (by rw [HY7.out]; exact c7))])
          go_wp2
          rw [put9_eq]
          have hb := put9_blk HRS4.out (.int .i64 0) (.int .i64 0) (.int .i64 0) (.bool false) (.bool false) (.bool false) (.bool false) (.slice none 0 0) (.slice none 0 0)
          have hbw := put9_below (g := w.heap.size + 1) HBW4.out (by omega) (.int .i64 0) (.int .i64 0) (.int .i64 0) (.bool false) (.bool false) (.bool false) (.bool false) (.slice none 0 0) (.slice none 0 0)
          have HRZ := HRR.out.symm.trans HD.out
          subst HRZ
          exact bodyPost_ret (results_ct rfl _ _ (w.heap.size + 1) 26 _ (0, 0) _ rfl hb Try.underlying26 rfl (by kernel_rfl)) rfl (z_post hbw)
        · have k7 : decide ((l.length : Int) < 10 + 4 * (n7 : Int)) = false := decide_eq_false (by omega)
          have C6 := Aside0.mk c6
          have C7 := Aside0.mk c7
          go_upto_block 2 with (fail)
          clear c6 c7 x6 x7 x6' x7' t0
          have HSB : Aside0 (W2.heap.size < W4.heap.size) := ⟨blk_lt HS4.out⟩
          go_cut [] (fun wc => Aside0 (∃ v, wc.heap[W2.heap.size]? = some (.cells #[.int .i64 q0, .int .i64 q2, .int .i64 q4, .bool (bt l 0), .bool (bt l 1), .bool (bt l 2), .bool (bt l 3), v, .slice none 0 0] 26 (0, 0)) ∧ Kd.R k52 52 wc W2.heap.size (fun _ => True) v (dS l n7)) ∧ Aside0 (Below W2.heap.size W2 wc))
          case first =>
            go_wp2
            go_loopw [10] (fun v10 wr => ∃ j : Nat, j ≤ n7 ∧ v10 = .int .i64 (10 + 4 * (j : Int)) ∧ Aside0 (∃ v, wr.heap[W2.heap.size]? = some (.cells #[.int .i64 q0, .int .i64 q2, .int .i64 q4, .bool (bt l 0), .bool (bt l 1), .bool (bt l 2), .bool (bt l 3), v, .slice none 0 0] 26 (0, 0)) ∧ Kd.R k52 52 wr W2.heap.size (fun _ => True) v (dS l j)) ∧ Aside0 (Below W2.heap.size W2 wr)) (fun v10 _ => 10 + 4 * n7 - (intOf v10).toNat)
            case atStart => exact ⟨0, Nat.zero_le _, rfl, ⟨⟨_, HS4.out, Kd.R_nil _ _ _ _ _⟩⟩, HB4⟩
            case round =>
              obtain ⟨j, hj, rfl, HRV, HBR⟩ := hrel
              obtain ⟨wo, hwo⟩ : ∃ wo : World, wo = wr := ⟨_, rfl⟩
              subst hwo
              obtain ⟨v, hs, hR⟩ := HRV.out
              clear HRV
              have hC7 := C7.out
              by_cases k0 : j < n7
              · have k0i : decide (10 + 4 * (j : Int) < 10 + 4 * (n7 : Int)) = true := decide_eq_true (by omega)
                obtain ⟨Av, cv, hv⟩ := Kd.R_slice hR
                subst hv
                have HR := Aside0.mk hR
                have HS := Aside0.mk hs
                have f7 : wo.cell? ⟨W2.heap.size, 7, none⟩ = some (.slice Av (dS l j).length cv) := by rw [blk_cell hs]; rfl
                have z7 := blk_frozen hs 7
                have q1 := blk_lt hs
                have hlen : (dS l j).length = j := by simp [dS]
                have HLN := Aside0.mk hlen
                obtain ⟨D, hD⟩ : ∃ D, dS l j = D := ⟨_, rfl⟩
                obtain ⟨qa, hqa⟩ : ∃ q, wd l (10 + 4 * j) = q := ⟨_, rfl⟩
                obtain ⟨qb, hqb⟩ : ∃ q, wd l (10 + 4 * j + 2) = q := ⟨_, rfl⟩
                have HDS := Aside0.mk (show dS l (j + 1) = D ++ [(⟨qa, qb⟩ : S52)] by rw [← hD, ← hqa, ← hqb]; simp [dS, List.range_succ])
                have HWA : Aside0 (∀ W, W.heap[w.heap.size]? = some (.cells #[.slice (some ad) l.length c] 23 (0, 0)) → Kd.C (Kd.int .u8) W (some ad) l.length l → Calls Try.prog 24 #[.int .i64 (10 + 4 * (j : Int)), .pointer (some ⟨w.heap.size, 0, none⟩)] W fun e w' => e = .returned (.int .i64 qa) ∧ Drawn0 W w') := ⟨fun W h1 h2 => by rw [← hqa, show (10 : Int) + 4 * (j : Int) = ((10 + 4 * j : Nat) : Int) by omega]; exact word_calls (10 + 4 * j) w.heap.size (some ad) c l W h1 h2 (by omega) (by omega) HBY.out⟩
                have HWB : Aside0 (∀ W, W.heap[w.heap.size]? = some (.cells #[.slice (some ad) l.length c] 23 (0, 0)) → Kd.C (Kd.int .u8) W (some ad) l.length l → Calls Try.prog 24 #[.int .i64 (10 + 4 * (j : Int) + 2), .pointer (some ⟨w.heap.size, 0, none⟩)] W fun e w' => e = .returned (.int .i64 qb) ∧ Drawn0 W w') := ⟨fun W h1 h2 => by rw [← hqb, show (10 : Int) + 4 * (j : Int) + 2 = ((10 + 4 * j + 2 : Nat) : Int) by omega]; exact word_calls (10 + 4 * j + 2) w.heap.size (some ad) c l W h1 h2 (by omega) (by omega) HBY.out⟩
                rw [hD] at HR f7 HLN HS
                rw [hD] at hR
                have HBXo := Aside0.mk (blk_below HBX.out HBR.out)
                have HCo := Aside0.mk (Kd.C_below HC2.out HBR.out)
                have hwr : IntKind.i64.wrap (10 + 4 * (j : Int) + 2) = 10 + 4 * (j : Int) + 2 := by simp only [i64_w]; unfold wrap64; omega
                have HN7 := Aside0.mk (show n7 ≤ 2500 by omega)
                clear hs hR hlen hqa hqb hD hC7
                clear HRR HSM HCL HC HC1 HB1 HO5 HO6 HB5 HB6 HQ0 HQ2 HQ4 HQ8 HW0 HW2 HW4 HW8 HS3 HB3 HS9 HB9 HB9' HRS HRS4 HBW4 HBL HS4 HB4 HSB C6 C7 HCS HC2 HBX HBY HY6 HY7 hu55 k7 k6 kcs hb6 hb7 hl hl2 hc hg0 hgl
                go_upto_region 20 with (fail)
                go_region_law (first
                  | (refine goesW_ Try.func24 (by kernel_rfl) rfl #[.int .i64 (10 + 4 * (j : Int)), .pointer (some ⟨w.heap.size, 0, none⟩)] rfl rfl rfl rfl (by (try simp only [List.map_toArray, List.map_cons, List.map_nil]); first | done | rfl) ?_; refine (HWA.out wo.drew HBXo.out (Kd.C_below HCo.out (below_drew (Below.refl _ _)))).mono ?_; rintro e wA ⟨rfl, hd⟩; refine ⟨_, rfl, ?_⟩; have hb : Below wo.heap.size wo wA := (Below.refl _ wo).drew.trans hd.below; have HBXa := Aside0.mk (blk_below HBXo.out hb); have HCa := Aside0.mk (Kd.C_below HCo.out hb); have HSa := Aside0.mk (blk_below HS.out hb); have HRa := Aside0.mk (Kd.R_below HR.out hb); have HBoa := Aside0.mk hb; have f7a : wA.cell? ⟨W2.heap.size, 7, none⟩ = some (.slice Av D.length cv) := (blk_cell HSa.out 7).trans rfl; have z7a := blk_frozen HSa.out 7; clear hb hd)
                  | (refine goesW_ Try.func24 (by kernel_rfl) rfl #[.int .i64 (10 + 4 * (j : Int) + 2), .pointer (some ⟨w.heap.size, 0, none⟩)] rfl rfl rfl rfl (by (try simp only [List.map_toArray, List.map_cons, List.map_nil]); first | done | rfl) ?_; refine (HWB.out wA HBXa.out HCa.out).mono ?_; rintro e wB ⟨rfl, hd⟩; refine ⟨_, rfl, ?_⟩; have hb : Below wo.heap.size wo wB := below_step HBoa.out hd.below; have HBXb := Aside0.mk (blk_below HBXo.out hb); have HCb := Aside0.mk (Kd.C_below HCo.out hb); have HSb := Aside0.mk (blk_below HS.out hb); have HRb := Aside0.mk (Kd.R_below HR.out hb); have HBob := Aside0.mk hb; have f7b : wB.cell? ⟨W2.heap.size, 7, none⟩ = some (.slice Av D.length cv) := (blk_cell HSb.out 7).trans rfl; have z7b := blk_frozen HSb.out 7; have f7c : (wB.alloc (Obj.cells #[.int .i64 qa, .int .i64 qb] 52)).cell? ⟨W2.heap.size, 7, none⟩ = some (.slice Av D.length cv) := (blk_cell (blk_below HSb.out (below_alloc (Below.refl _ _) _)) 7).trans rfl; clear hb hd)
                  | (refine Kd.R_append_step k52 (w0 := wB) (W := wB) W2.heap.size rfl (.tmp 73) (.tmp 82) 24 52 (.agg #[.int .i64 0, .int .i64 0]) 16 rfl Try.underlying24 info52 rfl (by decide) (by decide) (.slice Av D.length cv) D (⟨qa, qb⟩ : S52) [.int .i64 qa, .int .i64 qb] (fun _ => True) (fun _ => False) rfl rfl (k52_mkM _ _ _ (⟨qa, qb⟩ : S52)) (fun _ hk => hk.elim) (fun _ _ => trivial) HRb.out (Below.refl _ _) ?aS ?aL ?_; (case aS => have := HBR.out.size; have := HBob.out.size; omega); (case aL => have := HLN.out; have := HN7.out; omega); intro v17 w17 ho hb hg hat; obtain ⟨A9, c9, hv9⟩ := Kd.R_slice ho; subst hv9; have HO17 := Aside0.mk ho; have HB17 := Aside0.mk hb; have hblk := (hg.block W2.heap.size (blk_lt HSb.out) (fun e1 => by obtain ⟨cells, hc1⟩ := Kd.R_typed HRb.out _ e1.symm; rw [HSb.out] at hc1; injection hc1 with hc1; injection hc1 with _ hc1; exact absurd hc1 (by decide))).trans HSb.out; have HS17 := Aside0.mk hblk; have g7 : w17.cell? ⟨W2.heap.size, 7, none⟩ = some (.slice Av D.length cv) := (blk_cell hblk 7).trans rfl; have y7 := blk_frozen hblk 7; clear ho hb hg hat hblk))
                all_goals
                  have hBw : Below W2.heap.size W2 w17 := (HBR.out.trans (HBob.out.mono HBR.out.size)).trans HB17.out
                  have hst := blk_put HS17.out 7 (.slice A9 (D ++ [(⟨qa, qb⟩ : S52)]).length c9) rfl
                  have hRt := Kd.R_set HO17.out HS17.out (by decide) 7 (.slice A9 (D ++ [(⟨qa, qb⟩ : S52)]).length c9)
                  have HBt := Aside0.mk (blw_set hBw (Nat.le_refl _) 7 (.slice A9 (D ++ [(⟨qa, qb⟩ : S52)]).length c9))
                  rw [← HDS.out] at hRt
                  have HXt := Aside0.mk (show ∃ v, (w17.setCell ⟨W2.heap.size, 7, none⟩ (.slice A9 (D ++ [(⟨qa, qb⟩ : S52)]).length c9)).heap[W2.heap.size]? = some (.cells #[.int .i64 q0, .int .i64 q2, .int .i64 q4, .bool (bt l 0), .bool (bt l 1), .bool (bt l 2), .bool (bt l 3), v, .slice none 0 0] 26 (0, 0)) ∧ Kd.R k52 52 (w17.setCell ⟨W2.heap.size, 7, none⟩ (.slice A9 (D ++ [(⟨qa, qb⟩ : S52)]).length c9)) W2.heap.size (fun _ => True) v (dS l (j + 1)) from ⟨_, hst, by rw [HDS.out] at hRt ⊢; exact hRt⟩)
                  clear hBw hst hRt HS17 HO17 HB17 g7 y7
                  have hN7 := HN7.out
                  have hw4 : IntKind.i64.wrap (10 + 4 * (j : Int) + 4) = 10 + 4 * (j : Int) + 4 := by simp only [i64_w]; unfold wrap64; omega
                  go_wp2
                  have hDl : (D ++ [(⟨qa, qb⟩ : S52)]).length = D.length + 1 := by simp
                  rw [hDl] at HXt HBt
                  exact ⟨⟨j + 1, by omega, (by rw [show (10 : Int) + 4 * ((j + 1 : Nat) : Int) = 10 + 4 * (j : Int) + 4 by omega]), HXt, HBt⟩, by simp only [intOf]; omega⟩
              · obtain rfl : j = n7 := by omega
                have k0i : decide (10 + 4 * (j : Int) < 10 + 4 * (j : Int)) = false := decide_eq_false (by omega)
                clear hC7
                go_wp2
                go_meet
                case rel => exact ⟨⟨⟨v, hs, hR⟩⟩, HBR⟩
          case rest =>
            obtain ⟨W5, hW5⟩ : ∃ y : World, y = wc := ⟨_, rfl⟩
            subst hW5
            obtain ⟨HRV, HB5'⟩ := hcut
            obtain ⟨v7, hs, hR⟩ := HRV.out
            clear HRV
            obtain ⟨A7, c7, hv7⟩ := Kd.R_slice hR
            subst hv7
            have hlen7 : (dS l n7).length = n7 := by simp [dS]
            have HLN7 := Aside0.mk hlen7
            clear hlen7
            have hC7 := C7.out
            have HR := Aside0.mk hR
            have HS := Aside0.mk hs
            have t0 : W5.cell? ⟨w.heap.size, 0, none⟩ = some (.slice (some ad) l.length c) := by rw [blk_cell (blk_below HBX.out HB5'.out)]; rfl
            have HCX := Aside0.mk (Kd.C_drop (c := c) (m := 10 + 4 * n7) (Kd.C_below HC2.out HB5'.out) (by omega) hc)
            obtain ⟨i0, hi0, _, hsz0, _⟩ := info_parts info5
            have hkc : ∀ W : World, (Instr.slice 23 (.slice (some ad) l.length c) (some (.int .i64 (10 + 4 * (n7 : Int)))) none none).run Try.prog W = .ok (.slice (if c = 10 + 4 * n7 then some ad else (some ad).map (·.add ((10 + 4 * n7) * 1))) (l.drop (10 + 4 * n7)).length (c - (10 + 4 * n7))) W := fun W => by
              have h := cut_from (P := Try.prog) 23 5 .i64 Try.underlying23 hi0 1 hsz0 (some ad) l.length c (10 + 4 * (n7 : Int)) (by omega) (by omega) W
              rw [show (10 + 4 * (n7 : Int)).toNat = 10 + 4 * n7 by omega] at h
              rw [List.length_drop]
              exact h
            obtain ⟨Ad, hAd⟩ : ∃ y, (if c = 10 + 4 * n7 then some ad else (some ad).map (·.add ((10 + 4 * n7) * 1))) = y := ⟨_, rfl⟩
            rw [hAd] at hkc
            have HCY : Aside0 (Kd.C (Kd.int .u8) W5 Ad (l.drop (10 + 4 * n7)).length (l.drop (10 + 4 * n7))) := ⟨by rw [← hAd]; exact HCX.out⟩
            have hcd : (l.drop (10 + 4 * n7)).length ≤ c - (10 + 4 * n7) := by rw [List.length_drop]; omega
            have HCLD := Aside0.mk (show slices_Clone_byte_byte.f (l.drop (10 + 4 * n7)) = some (l.drop (10 + 4 * n7)) by unfold slices_Clone_byte_byte.f; rw [Option.bind_some, if_pos (by rw [List.length_drop]; simp; omega), List.nil_append])
            have q1 := blk_lt hs
            have s8 : W5.cell? ⟨W2.heap.size, 8, none⟩ = some (.slice none 0 0) := by rw [blk_cell hs]; rfl
            have z8 := blk_frozen hs 8
            have HRS5 := Aside0.mk (blk_below HRS.out HB5'.out)
            obtain ⟨ld, hld⟩ : ∃ y, l.drop (10 + 4 * n7) = y := ⟨_, rfl⟩
            rw [hld] at hkc HCY hcd HCLD
            have HLD := Aside0.mk hld
            clear hs hR hAd HCX hld
            have hb7n : n7 ≤ 255 := by omega
            have HN7 := Aside0.mk hb7n
            have HBW2 := Aside0.mk (HB1.out.trans (HB6.out.mono HB1.out.size))
            clear HSM HCL HC HC1 HB5 HO5 HO6 HB6 HW0 HW2 HW4 HW8 HS3 HB3 HS9 HB9 HB9' HRS4 HBW4 HBL HS4 HB4 HSB HC2 hu55
            go_upto_region 22 with (first
              | ((with_reducible refine gate_callee (f := 25) rfl ?_); refine goesL_ _ rfl rfl Try.func25 (by kernel_rfl) rfl #[.slice Ad ld.length (c - (10 + 4 * n7))] rfl (by (try simp only [List.map_toArray, List.map_cons, List.map_nil]); first | done | rfl) ?_; refine (slices_Clone_byte_byte.calls Ad (c - (10 + 4 * n7)) ld ld W5 HCY.out hcd HCLD.out).mono ?_; rintro e w6 ⟨v8, rfl, ho, hb6⟩; refine ⟨_, rfl, ?_⟩; have HO8 := Aside0.mk ho; have HB8 := Aside0.mk hb6; have s8b : w6.cell? ⟨W2.heap.size, 8, none⟩ = some (.slice none 0 0) := (blk_cell (blk_below HS.out HB8.out) 8).trans rfl; have z8b := blk_frozen (blk_below HS.out HB8.out) 8; obtain ⟨A8, c8, e8⟩ := Kd.R_slice HO8.out; subst e8; clear ho hb6))
            obtain ⟨W6, hW6⟩ : ∃ y, w6.setCell ⟨W2.heap.size, 8, none⟩ (.slice A8 ld.length c8) = y := ⟨_, rfl⟩
            have hs6 := blk_below HS.out HB8.out
            have HS6 : Aside0 (W6.heap[W2.heap.size]? = some (.cells #[.int .i64 q0, .int .i64 q2, .int .i64 q4, .bool (bt l 0), .bool (bt l 1), .bool (bt l 2), .bool (bt l 3), .slice A7 (dS l n7).length c7, .slice A8 ld.length c8] 26 (0, 0))) := ⟨by rw [← hW6]; exact blk_put hs6 8 _ rfl⟩
            have HR6 : Aside0 (Kd.R k52 52 W6 W2.heap.size (fun _ => True) (.slice A7 (dS l n7).length c7) (dS l n7)) := ⟨by rw [← hW6]; exact Kd.R_set (Kd.R_below HR.out HB8.out) hs6 (by decide) 8 _⟩
            have HO6 : Aside0 (Kd.R (Kd.int .u8) 5 W6 W5.heap.size (fun _ => True) (.slice A8 ld.length c8) ld) := ⟨by rw [← hW6]; exact Kd.R_set HO8.out hs6 (by decide) 8 _⟩
            have HB6 : Aside0 (Below W2.heap.size W2 W6) := ⟨by rw [← hW6]; exact blw_set (HB5'.out.trans (HB8.out.mono HB5'.out.size)) (Nat.le_refl _) 8 _⟩
            have HL5 : Aside0 (W2.heap.size ≤ W5.heap.size) := ⟨HB5'.out.size⟩
            rw [hW6]
            clear hs6 s8b z8b hW6 HB8 HO8 HRS5 HCY hkc HCLD s8 z8 hcd
            obtain ⟨fv, hfv⟩ : ∃ y, faultF q2 q4 (bt l 3) (dS l n7).length ld.length = y := ⟨_, rfl⟩
            have HF : Aside0 (Calls Try.prog 20 #[.agg #[.int .i64 q0, .int .i64 q2, .int .i64 q4, .bool (bt l 0), .bool (bt l 1), .bool (bt l 2), .bool (bt l 3), .slice A7 (dS l n7).length c7, .slice A8 ld.length c8]] W6 fun e w' => e = .returned (.int .i64 fv) ∧ Below W6.heap.size W6 w') := ⟨by
              rw [← hfv]
              have g0 := wd_rng l HBY.out 0
              have g2 := wd_rng l HBY.out 2
              have g4 := wd_rng l HBY.out 4
              rw [HQ0.out] at g0
              rw [HQ2.out] at g2
              rw [HQ4.out] at g4
              exact seg_fault_calls q0 q2 q4 (bt l 0) (bt l 1) (bt l 2) (bt l 3) A7 c7 (dS l n7) A8 c8 ld.length W6 (Kd.R_reads' HR6.out).2.2 g0 g2 (by omega) (dS_ser l HBY.out n7) (by rw [HLN7.out]; omega)⟩
            have HFV := Aside0.mk hfv
            have s0 : W6.cell? ⟨W2.heap.size, 0, none⟩ = some (.int .i64 q0) := (blk_cell HS6.out 0).trans rfl
            have s1 : W6.cell? ⟨W2.heap.size, 1, none⟩ = some (.int .i64 q2) := (blk_cell HS6.out 1).trans rfl
            have s2 : W6.cell? ⟨W2.heap.size, 2, none⟩ = some (.int .i64 q4) := (blk_cell HS6.out 2).trans rfl
            have s3 : W6.cell? ⟨W2.heap.size, 3, none⟩ = some (.bool (bt l 0)) := (blk_cell HS6.out 3).trans rfl
            have s4 : W6.cell? ⟨W2.heap.size, 4, none⟩ = some (.bool (bt l 1)) := (blk_cell HS6.out 4).trans rfl
            have s5 : W6.cell? ⟨W2.heap.size, 5, none⟩ = some (.bool (bt l 2)) := (blk_cell HS6.out 5).trans rfl
            have s6 : W6.cell? ⟨W2.heap.size, 6, none⟩ = some (.bool (bt l 3)) := (blk_cell HS6.out 6).trans rfl
            have s7 : W6.cell? ⟨W2.heap.size, 7, none⟩ = some (.slice A7 (dS l n7).length c7) := (blk_cell HS6.out 7).trans rfl
            have s8 : W6.cell? ⟨W2.heap.size, 8, none⟩ = some (.slice A8 ld.length c8) := (blk_cell HS6.out 8).trans rfl
            clear hfv q1
            by_cases cf : fv = 0
            · have kf : (fv != 0) = false := by rw [cf]; rfl
              have CF := Aside0.mk cf
              clear cf
              go_upto_region 24 with (first
                | ((with_reducible refine gate_callee (f := 20) rfl ?_); refine goesL_ _ rfl rfl Try.func20 (by kernel_rfl) rfl #[.agg #[.int .i64 q0, .int .i64 q2, .int .i64 q4, .bool (bt l 0), .bool (bt l 1), .bool (bt l 2), .bool (bt l 3), .slice A7 (dS l n7).length c7, .slice A8 ld.length c8]] rfl (by (try simp only [List.map_toArray, List.map_cons, List.map_nil]); first | done | rfl) ?_; refine HF.out.mono ?_; rintro e w7 ⟨rfl, hb7⟩; refine ⟨_, rfl, ?_⟩; have HB7 := Aside0.mk hb7; clear hb7 s0 s1 s2 s3 s4 s5 s6 s7 s8))
              have HZ7 := Aside0.mk (blk_below (blk_below HRS.out HB6.out) HB7.out)
              have HBF := Aside0.mk (HBW2.out.trans ((HB6.out.trans (HB7.out.mono HB6.out.size)).mono HBW2.out.size))
              have HS7 := Aside0.mk (blk_below HS6.out HB7.out)
              have HR7 := Aside0.mk (Kd.R_lower (Kd.R_below HR6.out HB7.out) HBW2.out.size)
              have HO7 := Aside0.mk (Kd.R_lower (Kd.R_below HO6.out HB7.out) (Nat.le_trans HBW2.out.size HL5.out))
              have r0 : w7.cell? ⟨w.heap.size + 1, 0, none⟩ = some (.int .i64 0) := (blk_cell HZ7.out 0).trans rfl
              have z0 := blk_frozen HZ7.out 0
              have r1 : w7.cell? ⟨w.heap.size + 1, 1, none⟩ = some (.int .i64 0) := (blk_cell HZ7.out 1).trans rfl
              have z1 := blk_frozen HZ7.out 1
              have r2 : w7.cell? ⟨w.heap.size + 1, 2, none⟩ = some (.int .i64 0) := (blk_cell HZ7.out 2).trans rfl
              have z2 := blk_frozen HZ7.out 2
              have r3 : w7.cell? ⟨w.heap.size + 1, 3, none⟩ = some (.bool false) := (blk_cell HZ7.out 3).trans rfl
              have z3 := blk_frozen HZ7.out 3
              have r4 : w7.cell? ⟨w.heap.size + 1, 4, none⟩ = some (.bool false) := (blk_cell HZ7.out 4).trans rfl
              have z4 := blk_frozen HZ7.out 4
              have r5 : w7.cell? ⟨w.heap.size + 1, 5, none⟩ = some (.bool false) := (blk_cell HZ7.out 5).trans rfl
              have z5 := blk_frozen HZ7.out 5
              have r6 : w7.cell? ⟨w.heap.size + 1, 6, none⟩ = some (.bool false) := (blk_cell HZ7.out 6).trans rfl
              have z6 := blk_frozen HZ7.out 6
              have r7 : w7.cell? ⟨w.heap.size + 1, 7, none⟩ = some (.slice none 0 0) := (blk_cell HZ7.out 7).trans rfl
              have z7 := blk_frozen HZ7.out 7
              have r8 : w7.cell? ⟨w.heap.size + 1, 8, none⟩ = some (.slice none 0 0) := (blk_cell HZ7.out 8).trans rfl
              have z8 := blk_frozen HZ7.out 8
              have s0 : w7.cell? ⟨W2.heap.size, 0, none⟩ = some (.int .i64 q0) := (blk_cell HS7.out 0).trans rfl
              have s1 : w7.cell? ⟨W2.heap.size, 1, none⟩ = some (.int .i64 q2) := (blk_cell HS7.out 1).trans rfl
              have s2 : w7.cell? ⟨W2.heap.size, 2, none⟩ = some (.int .i64 q4) := (blk_cell HS7.out 2).trans rfl
              have s3 : w7.cell? ⟨W2.heap.size, 3, none⟩ = some (.bool (bt l 0)) := (blk_cell HS7.out 3).trans rfl
              have s4 : w7.cell? ⟨W2.heap.size, 4, none⟩ = some (.bool (bt l 1)) := (blk_cell HS7.out 4).trans rfl
              have s5 : w7.cell? ⟨W2.heap.size, 5, none⟩ = some (.bool (bt l 2)) := (blk_cell HS7.out 5).trans rfl
              have s6 : w7.cell? ⟨W2.heap.size, 6, none⟩ = some (.bool (bt l 3)) := (blk_cell HS7.out 6).trans rfl
              have s7 : w7.cell? ⟨W2.heap.size, 7, none⟩ = some (.slice A7 (dS l n7).length c7) := (blk_cell HS7.out 7).trans rfl
              have s8 : w7.cell? ⟨W2.heap.size, 8, none⟩ = some (.slice A8 ld.length c8) := (blk_cell HS7.out 8).trans rfl
              have HD : Aside0 (decF sm l = (q0, q2, q4, bt l 0, bt l 1, bt l 2, bt l 3, dS l n7, ld, 0)) := ⟨by
                have hn : (rd l 7).toNat = n7 := by rw [HY7.out]; rfl
                have h1 := HFV.out
                rw [HLN7.out, ← HLD.out, List.length_drop, CF.out] at h1
                unfold decF
                rw [if_neg (fun h => h (HCS.out.trans HQ8.out.symm)), if_neg (fun h => h.elim (fun h => by rw [HY6.out] at h; have := C6.out; omega) (fun h => by rw [hn] at h; exact C7.out h)), hn, HQ2.out, HQ4.out, if_neg (fun h => h h1), HQ0.out, HLD.out]⟩
              go_wp2
              rw [put9_eq]
              have hb := put9_blk HZ7.out (.int .i64 q0) (.int .i64 q2) (.int .i64 q4) (.bool (bt l 0)) (.bool (bt l 1)) (.bool (bt l 2)) (.bool (bt l 3)) (.slice A7 (dS l n7).length c7) (.slice A8 ld.length c8)
              have hbw := put9_below (g := w.heap.size + 1) HBF.out (by omega) (.int .i64 q0) (.int .i64 q2) (.int .i64 q4) (.bool (bt l 0)) (.bool (bt l 1)) (.bool (bt l 2)) (.bool (bt l 3)) (.slice A7 (dS l n7).length c7) (.slice A8 ld.length c8)
              have hR9 := put9_R HR7.out HZ7.out (by decide) (.int .i64 q0) (.int .i64 q2) (.int .i64 q4) (.bool (bt l 0)) (.bool (bt l 1)) (.bool (bt l 2)) (.bool (bt l 3)) (.slice A7 (dS l n7).length c7) (.slice A8 ld.length c8)
              have hO9 := put9_R HO7.out HZ7.out (by decide) (.int .i64 q0) (.int .i64 q2) (.int .i64 q4) (.bool (bt l 0)) (.bool (bt l 1)) (.bool (bt l 2)) (.bool (bt l 3)) (.slice A7 (dS l n7).length c7) (.slice A8 ld.length c8)
              have HRZ := HRR.out.symm.trans HD.out
              subst HRZ
              exact bodyPost_ret (results_ct rfl _ _ (w.heap.size + 1) 26 _ (0, 0) _ rfl hb Try.underlying26 rfl (by kernel_rfl)) rfl ⟨_, _, rfl, hR9, hO9, hbw⟩
            · have kf : (fv != 0) = true := bne_iff_ne.mpr cf
              have CF := Aside0.mk cf
              clear cf
              go_upto_region 23 with (first
                | ((with_reducible refine gate_callee (f := 20) rfl ?_); refine goesL_ _ rfl rfl Try.func20 (by kernel_rfl) rfl #[.agg #[.int .i64 q0, .int .i64 q2, .int .i64 q4, .bool (bt l 0), .bool (bt l 1), .bool (bt l 2), .bool (bt l 3), .slice A7 (dS l n7).length c7, .slice A8 ld.length c8]] rfl (by (try simp only [List.map_toArray, List.map_cons, List.map_nil]); first | done | rfl) ?_; refine HF.out.mono ?_; rintro e w7 ⟨rfl, hb7⟩; refine ⟨_, rfl, ?_⟩; have HB7 := Aside0.mk hb7; clear hb7 s0 s1 s2 s3 s4 s5 s6 s7 s8))
              have HZ7 := Aside0.mk (blk_below (blk_below HRS.out HB6.out) HB7.out)
              have HBF := Aside0.mk (HBW2.out.trans ((HB6.out.trans (HB7.out.mono HB6.out.size)).mono HBW2.out.size))
              have r0 : w7.cell? ⟨w.heap.size + 1, 0, none⟩ = some (.int .i64 0) := (blk_cell HZ7.out 0).trans rfl
              have z0 := blk_frozen HZ7.out 0
              have r1 : w7.cell? ⟨w.heap.size + 1, 1, none⟩ = some (.int .i64 0) := (blk_cell HZ7.out 1).trans rfl
              have z1 := blk_frozen HZ7.out 1
              have r2 : w7.cell? ⟨w.heap.size + 1, 2, none⟩ = some (.int .i64 0) := (blk_cell HZ7.out 2).trans rfl
              have z2 := blk_frozen HZ7.out 2
              have r3 : w7.cell? ⟨w.heap.size + 1, 3, none⟩ = some (.bool false) := (blk_cell HZ7.out 3).trans rfl
              have z3 := blk_frozen HZ7.out 3
              have r4 : w7.cell? ⟨w.heap.size + 1, 4, none⟩ = some (.bool false) := (blk_cell HZ7.out 4).trans rfl
              have z4 := blk_frozen HZ7.out 4
              have r5 : w7.cell? ⟨w.heap.size + 1, 5, none⟩ = some (.bool false) := (blk_cell HZ7.out 5).trans rfl
              have z5 := blk_frozen HZ7.out 5
              have r6 : w7.cell? ⟨w.heap.size + 1, 6, none⟩ = some (.bool false) := (blk_cell HZ7.out 6).trans rfl
              have z6 := blk_frozen HZ7.out 6
              have r7 : w7.cell? ⟨w.heap.size + 1, 7, none⟩ = some (.slice none 0 0) := (blk_cell HZ7.out 7).trans rfl
              have z7 := blk_frozen HZ7.out 7
              have r8 : w7.cell? ⟨w.heap.size + 1, 8, none⟩ = some (.slice none 0 0) := (blk_cell HZ7.out 8).trans rfl
              have z8 := blk_frozen HZ7.out 8
              have HD : Aside0 (decF sm l = zSeg 4) := ⟨by
                have hn : (rd l 7).toNat = n7 := by rw [HY7.out]; rfl
                have h1 := HFV.out
                rw [HLN7.out, ← HLD.out, List.length_drop] at h1
                unfold decF
                rw [if_neg (fun h => h (HCS.out.trans HQ8.out.symm)), if_neg (fun h => h.elim (fun h => by rw [HY6.out] at h; have := C6.out; omega) (fun h => by rw [hn] at h; exact C7.out h)), hn, HQ2.out, HQ4.out, if_pos (fun h => CF.out (h1.symm.trans h))]⟩
              go_wp2
              rw [put9_eq]
              have hb := put9_blk HZ7.out (.int .i64 0) (.int .i64 0) (.int .i64 0) (.bool false) (.bool false) (.bool false) (.bool false) (.slice none 0 0) (.slice none 0 0)
              have hbw := put9_below (g := w.heap.size + 1) HBF.out (by omega) (.int .i64 0) (.int .i64 0) (.int .i64 0) (.bool false) (.bool false) (.bool false) (.bool false) (.slice none 0 0) (.slice none 0 0)
              have HRZ := HRR.out.symm.trans HD.out
              subst HRZ
              exact bodyPost_ret (results_ct rfl _ _ (w.heap.size + 1) 26 _ (0, 0) _ rfl hb Try.underlying26 rfl (by kernel_rfl)) rfl (z_post hbw)
  · have kcs : (sm != q8) = true := bne_iff_ne.mpr cs
    have r0 : W2.cell? ⟨w.heap.size + 1, 0, none⟩ = some (.int .i64 0) := by rw [blk_cell HRS.out]; rfl
    have z0 := blk_frozen HRS.out 0
    have r1 : W2.cell? ⟨w.heap.size + 1, 1, none⟩ = some (.int .i64 0) := by rw [blk_cell HRS.out]; rfl
    have z1 := blk_frozen HRS.out 1
    have r2 : W2.cell? ⟨w.heap.size + 1, 2, none⟩ = some (.int .i64 0) := by rw [blk_cell HRS.out]; rfl
    have z2 := blk_frozen HRS.out 2
    have r3 : W2.cell? ⟨w.heap.size + 1, 3, none⟩ = some (.bool false) := by rw [blk_cell HRS.out]; rfl
    have z3 := blk_frozen HRS.out 3
    have r4 : W2.cell? ⟨w.heap.size + 1, 4, none⟩ = some (.bool false) := by rw [blk_cell HRS.out]; rfl
    have z4 := blk_frozen HRS.out 4
    have r5 : W2.cell? ⟨w.heap.size + 1, 5, none⟩ = some (.bool false) := by rw [blk_cell HRS.out]; rfl
    have z5 := blk_frozen HRS.out 5
    have r6 : W2.cell? ⟨w.heap.size + 1, 6, none⟩ = some (.bool false) := by rw [blk_cell HRS.out]; rfl
    have z6 := blk_frozen HRS.out 6
    have r7 : W2.cell? ⟨w.heap.size + 1, 7, none⟩ = some (.slice none 0 0) := by rw [blk_cell HRS.out]; rfl
    have z7 := blk_frozen HRS.out 7
    have r8 : W2.cell? ⟨w.heap.size + 1, 8, none⟩ = some (.slice none 0 0) := by rw [blk_cell HRS.out]; rfl
    have z8 := blk_frozen HRS.out 8
    have HD := Aside0.mk (show decF sm l = zSeg 6 by unfold decF; rw [if_pos (fun h => cs (h.trans HQ8.out))])
    clear cs
    go_wp2
    rw [put9_eq]
    have hb := blk_drewN (put9_blk HRS.out (.int .i64 0) (.int .i64 0) (.int .i64 0) (.bool false) (.bool false) (.bool false) (.bool false) (.slice none 0 0) (.slice none 0 0)) (nq + nq8)
    have hbw := pw_below_drewN (put9_below (g := w.heap.size + 1) (HB1.out.trans (HB6.out.mono HB1.out.size)) (by omega) (.int .i64 0) (.int .i64 0) (.int .i64 0) (.bool false) (.bool false) (.bool false) (.bool false) (.slice none 0 0) (.slice none 0 0)) (nq + nq8)
    have HRZ := HRR.out.symm.trans HD.out
    subst HRZ
    exact bodyPost_ret (results_ct rfl _ _ (w.heap.size + 1) 26 _ (0, 0) _ rfl hb Try.underlying26 rfl (by kernel_rfl)) rfl (z_post hbw)
def octB (l : List Int) : Bool := l.all fun x => decide (0 ≤ x ∧ x ≤ 255)
theorem octB_L {l : List Int} (h : octB l = true) : OctL l := by
  intro i
  unfold octB at h
  rw [List.all_eq_true] at h
  unfold rd
  rw [Int.toNat_natCast]
  by_cases c : i < l.length
  · rw [List.getD_eq_getElem?_getD, List.getElem?_eq_getElem c]
    exact of_decide_eq_true (h _ (List.getElem_mem c))
  · rw [List.getD_eq_getElem?_getD, List.getElem?_eq_none (by omega)]; simp
def seg_Decode.f (l0 : List Int) : Option (Int × Int × Int × Bool × Bool × Bool × Bool × (List (S52)) × List Int × Int) :=
  if l0.length < 10 then some (zSeg 5)
  else if l0.length ≤ 140737488351232 ∧ octB l0 = true then (inet_Sum.f (l0.length + 1000) (blankF l0)).bind fun sm => some (decF sm l0)
  else none
theorem seg_Decode.calls (A0 : Option Addr) (c0 : Nat) (l0 : List Int) (r1 : Int) (r2 : Int) (r3 : Int) (r4 : Bool) (r5 : Bool) (r6 : Bool) (r7 : Bool) (r8 : List (S52)) (r9 : List Int) (r10 : Int) (w : World) (hr0 : Kd.C (Kd.int .u8) w A0 l0.length l0) (hc0 : l0.length ≤ c0) (h : seg_Decode.f l0 = some (r1, r2, r3, r4, r5, r6, r7, r8, r9, r10)) :
    Calls Try.prog 10 #[.slice A0 l0.length c0] w fun e w' => ∃ v7_ v8_ : Value, e = .returned (.tuple #[.agg #[.int .i64 r1, .int .i64 r2, .int .i64 r3, .bool r4, .bool r5, .bool r6, .bool r7, v7_, v8_], .int .i64 r10]) ∧ Kd.R k52 52 w' w.heap.size (fun _ => True) v7_ r8 ∧ Kd.R (Kd.int .u8) 5 w' w.heap.size (fun _ => True) v8_ r9 ∧ Below w.heap.size w w' := by
  unfold seg_Decode.f at h
  by_cases hc : l0.length < 10
  · rw [if_pos hc] at h
    injection h with h
    have := seg_decode_short A0 c0 l0 w hc
    rw [h] at this
    exact this
  · rw [if_neg hc] at h
    by_cases ho : l0.length ≤ 140737488351232 ∧ octB l0 = true
    · rw [if_pos ho] at h
      rcases hs : inet_Sum.f (l0.length + 1000) (blankF l0) with _ | sm
      · rw [hs] at h; cases h
      · rw [hs, Option.bind_some] at h
        injection h with h
        exact seg_decode_calls (l0.length + 1000) A0 c0 l0 sm w hr0 hc0 (by omega) ho.1 (octB_L ho.2) hs _ h
    · rw [if_neg ho] at h; cases h

/-! ### inet_bad: function 28 -/
def inet_bad.l0 : Nat → List Int → Int → Int → Option (Bool)
  | 0, _, _, _ => none
  | k + 1, x5, x6, x7 => if x7 < x6 then (if 0 ≤ x7 then (if x7 < (x5.length : Int) then (if (rd x5 x7) < 0 then (some true) else (if (rd x5 x7) > 65535 then (some true) else (inet_bad.l0 k x5 x6 (wrap64 (x7 + 1))))) else (none)) else (none)) else (some false)
def inet_bad.f (k : Nat) (l0 : List Int) : Option (Bool) := inet_bad.l0 k l0 (l0.length : Int) 0
theorem inet_bad.mono_l : ∀ k, (∀ y0 y1 y2, LeO (inet_bad.l0 k y0 y1 y2) (inet_bad.l0 (k + 1) y0 y1 y2))
  | 0 => fun _ _ _ r h => by simp [inet_bad.l0] at h
  | k + 1 => by
    have ih0 := inet_bad.mono_l k
    · intro y0 y1 y2
      unfold inet_bad.l0
      repeat' first
      | (with_reducible exact ih0 _ _ _)
      | (with_reducible exact LeO.refl _)
      | (with_reducible exact LeO.none _)
      | (with_reducible refine LeO.ite ?_ ?_)
      | (with_reducible refine LeO.bind ?_ (fun _ => ?_))
      | exact ih0 _ _ _
      | exact LeO.none _
      | refine LeO.ite ?_ ?_
      | refine LeO.bind ?_ (fun _ => ?_)
theorem inet_bad.mono : ∀ a0 k, LeO (inet_bad.f k a0) (inet_bad.f (k + 1) a0) := by
  intro a0 k
  have ih0 := inet_bad.mono_l k
  unfold inet_bad.f
  repeat' first
      | (with_reducible exact ih0 _ _ _)
      | (with_reducible exact LeO.refl _)
      | (with_reducible exact LeO.none _)
      | (with_reducible refine LeO.ite ?_ ?_)
      | (with_reducible refine LeO.bind ?_ (fun _ => ?_))
      | exact ih0 _ _ _
      | exact LeO.none _
      | refine LeO.ite ?_ ?_
      | refine LeO.bind ?_ (fun _ => ?_)
set_option maxHeartbeats 8000000 in
set_option maxRecDepth 100000 in
theorem inet_bad.calls (k : Nat) (A0 : Option Addr) (c0 : Nat) (l0 : List Int) (r : Bool) (w : World) (hr0 : Kd.C (Kd.int .i64) w A0 l0.length l0) (hc0 : l0.length ≤ c0) (h : inet_bad.f k l0 = some r) :
    Calls Try.prog 28 #[.slice A0 l0.length c0] w fun e w' => e = .returned (.bool r) ∧ Drawn0 w w' := by
  have HR0 := Aside0.mk hr0
  have HC0 := Aside0.mk hc0
  clear hr0 hc0
  have H : (inet_bad.l0 k l0 (l0.length : Int) 0) = some r := h
  clear h
  have H' := Aside0.mk H
  clear H
  go_enter Try.func28, Try.ntmps28
  go_wp2
  go_loopg [7] k (fun kq v7 w' => ∃ (x7_1 : Int), v7 = .int .i64 x7_1 ∧ Aside0 (inet_bad.l0 kq l0 (l0.length : Int) x7_1 = some r) ∧ Aside0 (kq ≤ k) ∧ Drawn0 w w')
  case atStart => exact ⟨(0), (by first | rfl | (simp; done) | (simp [*]; done)), H', ⟨Nat.le_refl _⟩, by repeat (first | exact Drawn0.refl _ | apply Drawn0.step)⟩
  case round =>
    clear H'
    obtain ⟨x7_1, rfl, HA, HK1, ⟨m1, rfl⟩⟩ := hrel
    cases gk with
    | zero => exact absurd HA.out (by simp [inet_bad.l0])
    | succ k1 =>
      have H := HA.out
      clear HA
      simp only [inet_bad.l0] at H
      by_cases c2 : x7_1 < (l0.length : Int)
      · rw [if_pos c2] at H
        have c2b0 : decide (x7_1 < (l0.length : Int)) = true := decide_eq_true c2
        clear c2
        by_cases c3 : 0 ≤ x7_1
        · rw [if_pos c3] at H
          have c3b0 : decide (0 ≤ x7_1) = true := decide_eq_true c3
          clear c3
          by_cases c4 : x7_1 < (l0.length : Int)
          · rw [if_pos c4] at H
            have c4b0 : decide (x7_1 < (l0.length : Int)) = true := decide_eq_true c4
            clear c4
            by_cases c5 : (rd l0 x7_1) < 0
            · rw [if_pos c5] at H
              have c5b0 : decide ((rd l0 x7_1) < 0) = true := decide_eq_true c5
              clear c5
              obtain rfl := Option.some.inj H
              have p126 : 0 ≤ (x7_1 : Int) := of_decide_eq_true (by first | (with_reducible assumption) | assumption)
              have q126 : x7_1 < (l0.length : Int) := of_decide_eq_true (by first | (with_reducible assumption) | assumption)
              obtain ⟨ad126, e126, hx126_0⟩ := Kd.at_int HR0.out x7_1 p126 q126
              cases e126
              replace p126 := eq_true p126
              replace q126 := eq_true q126
              go_wp2
              go_ret
              exact ⟨by first | rfl | (simp; done) | (simp [*]; done), by repeat (first | exact Drawn0.refl _ | apply Drawn0.step)⟩
            · rw [if_neg c5] at H
              have c5b0 : decide ((rd l0 x7_1) < 0) = false := decide_eq_false c5
              clear c5
              by_cases c6 : (rd l0 x7_1) > 65535
              · rw [if_pos c6] at H
                have c6b0 : decide (65535 < (rd l0 x7_1)) = true := decide_eq_true c6
                clear c6
                obtain rfl := Option.some.inj H
                have p126 : 0 ≤ (x7_1 : Int) := of_decide_eq_true (by first | (with_reducible assumption) | assumption)
                have q126 : x7_1 < (l0.length : Int) := of_decide_eq_true (by first | (with_reducible assumption) | assumption)
                obtain ⟨ad126, e126, hx126_0⟩ := Kd.at_int HR0.out x7_1 p126 q126
                cases e126
                replace p126 := eq_true p126
                replace q126 := eq_true q126
                go_wp2
                go_ret
                exact ⟨by first | rfl | (simp; done) | (simp [*]; done), by repeat (first | exact Drawn0.refl _ | apply Drawn0.step)⟩
              · rw [if_neg c6] at H
                have c6b0 : decide (65535 < (rd l0 x7_1)) = false := decide_eq_false c6
                clear c6
                have H' := Aside0.mk H
                clear H
                have p126 : 0 ≤ (x7_1 : Int) := of_decide_eq_true (by first | (with_reducible assumption) | assumption)
                have q126 : x7_1 < (l0.length : Int) := of_decide_eq_true (by first | (with_reducible assumption) | assumption)
                obtain ⟨ad126, e126, hx126_0⟩ := Kd.at_int HR0.out x7_1 p126 q126
                cases e126
                replace p126 := eq_true p126
                replace q126 := eq_true q126
                go_wp2
                go_roundg k1
                case measure => have := HK1.out; omega
                case rel => exact ⟨(wrap64 (x7_1 + 1)), (by first | rfl | (simp; done) | (simp [*]; done)), H', ⟨by have := HK1.out; omega⟩, by repeat (first | exact Drawn0.refl _ | apply Drawn0.step)⟩
          · rw [if_neg c4] at H
            exact absurd H (by simp)
        · rw [if_neg c3] at H
          exact absurd H (by simp)
      · rw [if_neg c2] at H
        have c2b0 : decide (x7_1 < (l0.length : Int)) = false := decide_eq_false c2
        clear c2
        obtain rfl := Option.some.inj H
        go_wp2
        go_ret
        exact ⟨by first | rfl | (simp; done) | (simp [*]; done), by repeat (first | exact Drawn0.refl _ | apply Drawn0.step)⟩

/-! ### inet_Update: function 18 -/
def inet_Update.f (k : Nat) (a0 : Int) (a1 : Int) (a2 : Int) : Option (Int × Int) := (inet_bad.f k (([a0, a1, a2] : List Int))).bind fun t130 => (if t130 = true then (some (0, 2)) else ((inet_fold.f k (wrap64 ((wrap64 ((wrap64 ((wrap64 (65535 - a0)) + 65535)) - a1)) + a2))).bind fun t131 => (some (wrap64 (65535 - t131), 0))))
theorem inet_Update.mono : ∀ a0 a1 a2 k, LeO (inet_Update.f k a0 a1 a2) (inet_Update.f (k + 1) a0 a1 a2) := by
  intro a0 a1 a2 k
  unfold inet_Update.f
  repeat' first
      | (with_reducible exact inet_bad.mono _ _)
      | (with_reducible exact inet_fold.mono _ _)
      | (with_reducible exact LeO.refl _)
      | (with_reducible exact LeO.none _)
      | (with_reducible refine LeO.ite ?_ ?_)
      | (with_reducible refine LeO.bind ?_ (fun _ => ?_))
      | exact inet_bad.mono _ _
      | exact inet_fold.mono _ _
      | exact LeO.none _
      | refine LeO.ite ?_ ?_
      | refine LeO.bind ?_ (fun _ => ?_)
set_option maxHeartbeats 8000000 in
set_option maxRecDepth 100000 in
theorem inet_Update.calls (k : Nat) (a0 : Int) (a1 : Int) (a2 : Int) (r1 : Int) (r2 : Int) (w : World) (h : inet_Update.f k a0 a1 a2 = some (r1, r2)) :
    Calls Try.prog 18 #[.int .i64 a0, .int .i64 a1, .int .i64 a2] w fun e w' => e = .returned (.tuple #[.int .i64 r1, .int .i64 r2]) ∧ Below w.heap.size w w' := by
  have HB := Aside0.mk (Below.refl w.heap.size w)
  have H : ((inet_bad.f k (([a0, a1, a2] : List Int))).bind fun t130 => (if t130 = true then (some (0, 2)) else ((inet_fold.f k (wrap64 ((wrap64 ((wrap64 ((wrap64 (65535 - a0)) + 65535)) - a1)) + a2))).bind fun t131 => (some (wrap64 (65535 - t131), 0))))) = some (r1, r2) := h
  clear h
  obtain ⟨y127, hy127⟩ : ∃ y_ : List Int, y_ = (([a0, a1, a2] : List Int)) := ⟨_, rfl⟩
  replace H : ((inet_bad.f k y127).bind fun t130 => (if t130 = true then (some (0, 2)) else ((inet_fold.f k (wrap64 ((wrap64 ((wrap64 ((wrap64 (65535 - a0)) + 65535)) - a1)) + a2))).bind fun t131 => (some (wrap64 (65535 - t131), 0))))) = some (r1, r2) := by first | (rw [hy127]; with_reducible exact H) | (have H2_ := (Option.bind_some _ _).symm.trans H; rw [hy127]; with_reducible exact H2_) | (have H2_ := (Option.bind_some _ _).symm.trans H; with_reducible exact H2_) | with_reducible exact H | (rw [hy127]; exact H) | exact H
  have Ny127 := Aside0.mk hy127
  clear hy127
  replace H := Option.bind_eq_some_iff.mp H
  obtain ⟨t130, A40, H⟩ := H
  replace H : (if t130 = true then (some (0, 2)) else ((inet_fold.f k (wrap64 ((wrap64 ((wrap64 ((wrap64 (65535 - a0)) + 65535)) - a1)) + a2))).bind fun t131 => (some (wrap64 (65535 - t131), 0)))) = some (r1, r2) := H
  have A4 := Aside0.mk A40
  clear A40
  by_cases c5 : t130 = true
  · subst c5
    have H1 : (some (0, 2)) = some (r1, r2) := by rw [if_pos rfl] at H; exact H
    clear H
    have H := H1
    clear H1
    simp only [Option.some.injEq, Prod.mk.injEq] at H
    obtain ⟨rfl, rfl⟩ := H
    go_enter Try.func18, Try.ntmps18
    go_wp2_with (first | ((with_reducible refine gate_dst (N := 11) rfl ?_); refine Kd.R_lit (Kd.int .i64) _ 3 ?hg (N := 11) ?hd (xs := ([a0, a1, a2] : List Int)) (inner := [.int .i64 a0, .int .i64 a1, .int .i64 a2]) (ok := fun _ => True) (okp := fun _ => True) ?hr ?hp (fun _ hk => hk) trivial (Below.refl _ _) (Nat.le_refl _) (by simp) ?_; (case hd => rfl); (case hg => rfl); (case hr => first | (go_simp; done) | (go_simp; rfl)); (case hp => exact (Reps.one (show Kd.M (Kd.int .i64) _ _ _ a0 [.int .i64 a0] from rfl) (Reps.one (show Kd.M (Kd.int .i64) _ _ _ a1 [.int .i64 a1] from rfl) (Reps.one (show Kd.M (Kd.int .i64) _ _ _ a2 [.int .i64 a2] from rfl) (Reps.none _ _))))); intro v128 w6 ho7 hb hg_ hnew_; clear hg_ hnew_; (first | rw [← Ny127.out] at ho7 | (simp only [Int.reduceToNat] at ho7; rw [← Ny127.out] at ho7)); have n0_ := Aside0.mk (Kd.R_lower ho7 (below_size (by repeat (first | (with_reducible first | exact HB.out | apply below_alloc | apply pw_below_drewN | apply below_drew1) | exact HB.out)))); have n1_ := Aside0.mk (below_step (by repeat (first | (with_reducible first | exact HB.out | apply below_alloc | apply pw_below_drewN | apply below_drew1) | exact HB.out)) hb); clear HB; have HO129 := n0_; have HB := n1_; clear n0_ n1_; clear hb ho7; obtain ⟨Ao8, co8, eo8⟩ := Kd.R_slice HO129.out; subst eo8) | ((with_reducible refine gate_callee (f := 28) rfl ?_); refine goesL_ (some 12) rfl rfl Try.func28 (by kernel_rfl) rfl #[.slice Ao8 y127.length co8] rfl (by (try simp only [List.map_toArray, List.map_cons, List.map_nil]); first | done | rfl | (simp only [List.length_drop, List.length_take]; rfl)) ?_; (with_reducible refine (inet_bad.calls k _ _ y127 true _ ?side1 ?side2 A4.out).mono ?_); (case side1 => repeat (first | exact (Kd.R_reads' HO129.out).2.2 | (with_reducible refine Kd.C_alloc ?_ _) | (with_reducible refine Kd.C_drewN ?_ _) | (with_reducible refine Kd.C_drew ?_))); (case side2 => exact (Kd.R_reads' HO129.out).2.1); rintro e w' ⟨rfl, ⟨nd, rfl⟩⟩; refine ⟨_, rfl, ?_⟩))
    go_ret2
    exact ⟨by first | rfl | (simp [errW_none, errW_some] <;> rfl) | (simp [*, errW_none, errW_some] <;> rfl), by repeat (first | (with_reducible first | exact HB.out | apply below_alloc | apply pw_below_drewN | apply below_drew1) | exact HB.out)⟩
  · replace c5 := Bool.eq_false_iff.mpr c5
    subst c5
    have H1 : ((inet_fold.f k (wrap64 ((wrap64 ((wrap64 ((wrap64 (65535 - a0)) + 65535)) - a1)) + a2))).bind fun t131 => (some (wrap64 (65535 - t131), 0))) = some (r1, r2) := by rw [if_neg (show ¬ (false = true) by decide)] at H; exact H
    clear H
    have H := H1
    clear H1
    replace H := Option.bind_eq_some_iff.mp H
    obtain ⟨t131, A90, H⟩ := H
    replace H : (some (wrap64 (65535 - t131), 0)) = some (r1, r2) := H
    have A9 := Aside0.mk A90
    clear A90
    simp only [Option.some.injEq, Prod.mk.injEq] at H
    obtain ⟨rfl, rfl⟩ := H
    go_enter Try.func18, Try.ntmps18
    go_wp2_with (first | ((with_reducible refine gate_dst (N := 11) rfl ?_); refine Kd.R_lit (Kd.int .i64) _ 3 ?hg (N := 11) ?hd (xs := ([a0, a1, a2] : List Int)) (inner := [.int .i64 a0, .int .i64 a1, .int .i64 a2]) (ok := fun _ => True) (okp := fun _ => True) ?hr ?hp (fun _ hk => hk) trivial (Below.refl _ _) (Nat.le_refl _) (by simp) ?_; (case hd => rfl); (case hg => rfl); (case hr => first | (go_simp; done) | (go_simp; rfl)); (case hp => exact (Reps.one (show Kd.M (Kd.int .i64) _ _ _ a0 [.int .i64 a0] from rfl) (Reps.one (show Kd.M (Kd.int .i64) _ _ _ a1 [.int .i64 a1] from rfl) (Reps.one (show Kd.M (Kd.int .i64) _ _ _ a2 [.int .i64 a2] from rfl) (Reps.none _ _))))); intro v128 w10 ho11 hb hg_ hnew_; clear hg_ hnew_; (first | rw [← Ny127.out] at ho11 | (simp only [Int.reduceToNat] at ho11; rw [← Ny127.out] at ho11)); have n0_ := Aside0.mk (Kd.R_lower ho11 (below_size (by repeat (first | (with_reducible first | exact HB.out | apply below_alloc | apply pw_below_drewN | apply below_drew1) | exact HB.out)))); have n1_ := Aside0.mk (below_step (by repeat (first | (with_reducible first | exact HB.out | apply below_alloc | apply pw_below_drewN | apply below_drew1) | exact HB.out)) hb); clear HB; have HO129 := n0_; have HB := n1_; clear n0_ n1_; clear hb ho11; obtain ⟨Ao12, co12, eo12⟩ := Kd.R_slice HO129.out; subst eo12) | ((with_reducible refine gate_callee (f := 28) rfl ?_); refine goesL_ (some 12) rfl rfl Try.func28 (by kernel_rfl) rfl #[.slice Ao12 y127.length co12] rfl (by (try simp only [List.map_toArray, List.map_cons, List.map_nil]); first | done | rfl | (simp only [List.length_drop, List.length_take]; rfl)) ?_; (with_reducible refine (inet_bad.calls k _ _ y127 false _ ?side1 ?side2 A4.out).mono ?_); (case side1 => repeat (first | exact (Kd.R_reads' HO129.out).2.2 | (with_reducible refine Kd.C_alloc ?_ _) | (with_reducible refine Kd.C_drewN ?_ _) | (with_reducible refine Kd.C_drew ?_))); (case side2 => exact (Kd.R_reads' HO129.out).2.1); rintro e w' ⟨rfl, ⟨nd, rfl⟩⟩; refine ⟨_, rfl, ?_⟩) | ((with_reducible refine gate_callee (f := 27) rfl ?_); refine goesL_ (some 20) rfl rfl Try.func27 (by kernel_rfl) rfl #[.int .i64 (wrap64 ((wrap64 ((wrap64 ((wrap64 (65535 - a0)) + 65535)) - a1)) + a2))] rfl (by (try simp only [List.map_toArray, List.map_cons, List.map_nil]); first | done | rfl | (simp only [List.length_drop, List.length_take]; rfl)) ?_; (with_reducible refine (inet_fold.calls k (wrap64 ((wrap64 ((wrap64 ((wrap64 (65535 - a0)) + 65535)) - a1)) + a2)) t131 _ A9.out).mono ?_); rintro e w' ⟨rfl, ⟨nd, rfl⟩⟩; refine ⟨_, rfl, ?_⟩))
    go_ret2
    exact ⟨by first | rfl | (simp [errW_none, errW_some] <;> rfl) | (simp [*, errW_none, errW_some] <;> rfl), by repeat (first | (with_reducible first | exact HB.out | apply below_alloc | apply pw_below_drewN | apply below_drew1) | exact HB.out)⟩

end Go.Proofs.Ytblkhkipbcpaiaa.PTopSealed
