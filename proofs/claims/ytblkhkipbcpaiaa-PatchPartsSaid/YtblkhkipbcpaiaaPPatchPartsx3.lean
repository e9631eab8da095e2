/- Printed by a program of this session (wip/myprint.py): Go functions of the law as Lean functions, and the proof that the code comes to these answers. -/
import Derived.Test.YtblkhkipbcpaiaaPPatchPartsx0
import Derived.Test.YtblkhkipbcpaiaaPPatchPartsx1
import Derived.Test.YtblkhkipbcpaiaaPPatchPartsx2
namespace Go.Proofs.Ytblkhkipbcpaiaa.PPatchParts
open Go.RowKit Go.Proofs.YtblkhkipbcpaiaaW.PrintWords Go.Proofs.YtblkhkipbcpaiaaW.PrintLast Go.Proofs.YtblkhkipbcpaiaaW.PrintMore
attribute [local go_sem] max2_int min2_int max_two min_two max_three min_three max_four min_four   -- for this text's walks alone
attribute [local go_sem] pn_setCell_drewN
set_option linter.unusedVariables false
set_option linter.unusedSimpArgs false

/-! ### packthreadkeep_PatchParts: function 6, by hand -/
theorem k42_mkF (W : World) (ok : Nat → Prop) (x : S42) {A3 : Option Addr} {c3 : Nat} (l3 : x.f3.length ≤ c3) (g : Kd.F (Kd.int .u8) W ok A3 x.f3.length x.f3) : Kd.FK k42 W ok x [.bool x.f0, .int .i64 x.f1, .int .i64 x.f2, .slice A3 x.f3.length c3] := fun W2 h2 => k42_mk W2 x l3 (g W2 h2)
/-- what a piece of a raw number is -/
def pieceF (L : Nat) (n : Int) : Option S42 := (packthreadkeep_Picked.f n 3).bind fun a => if a = 0 then some ⟨false, 0, 0, [n % 256, 1]⟩ else (packthreadkeep_Picked.f (wrap64 (Int.tdiv n 3)) (wrap64 ((L : Int) + 1))).bind fun f => (packthreadkeep_Picked.f (wrap64 (Int.tdiv n 601)) (wrap64 (wrap64 ((L : Int) - f) + 1))).bind fun l => some ⟨true, f, l, []⟩
set_option maxHeartbeats 4000000 in
set_option maxRecDepth 100000 in
theorem piece_calls (n : Int) (ob : Nat) (A : Option Addr) (L c : Nat) (w : World) (hO : w.heap[ob]? = some (.cells #[.slice A L c] 23 (0, 0))) (p : S42) (h : pieceF L n = some p) :
    Calls Try.prog 15 #[.int .i64 n, .pointer (some ⟨ob, 0, none⟩)] w fun e w' => ∃ A3 c3, e = .returned (.agg #[.bool p.f0, .int .i64 p.f1, .int .i64 p.f2, .slice A3 p.f3.length c3]) ∧ p.f3.length ≤ c3 ∧ Kd.F (Kd.int .u8) w' (fun k => w.heap.size ≤ k) A3 p.f3.length p.f3 ∧ Below w.heap.size w w' := by
  have hu42 := Try.underlying42
  unfold pieceF at h
  rcases h1 : packthreadkeep_Picked.f n 3 with _ | a
  · rw [h1] at h; exact absurd h (by simp)
  rw [h1, Option.bind_some] at h
  have H1 := Aside0.mk h1
  have H := Aside0.mk h
  have HO := Aside0.mk hO
  clear h1 h hO
  have t0 : w.cell? ⟨ob, 0, none⟩ = some (.slice A L c) := by rw [blk_cell HO.out]; rfl
  have hb0 := blk_lt HO.out
  have t1 : ∀ o, (w.alloc o).cell? ⟨ob, 0, none⟩ = some (.slice A L c) := fun o => pw_cell_below (below_alloc (Below.refl _ _) o) t0
  go_enter Try.func15, Try.ntmps15
  by_cases ca : a = 0
  · have cab : (a == 0) = true := beq_iff_eq.mpr ca
    go_wp2_with (first
      | ((with_reducible refine gate_callee (f := 12) rfl ?_); refine goesL_ _ rfl rfl Try.func12 (by kernel_rfl) rfl #[.int .i64 n, .int .i64 3] rfl (by (try simp only [List.map_toArray, List.map_cons, List.map_nil]); first | done | rfl) ?_; refine (packthreadkeep_Picked.calls n 3 a _ H1.out).mono ?_; rintro e w5 ⟨rfl, hb5⟩; refine ⟨_, rfl, ?_⟩; obtain ⟨⟨nq, rfl⟩⟩ := hb5))
    have hh := H.out
    rw [if_pos ca] at hh
    injection hh with hh
    subst hh
    obtain ⟨W, hW⟩ : ∃ y, ((w.alloc (Obj.cells #[.bool false, .int .i64 0, .int .i64 0, .slice (some ⟨w.heap.size + 1, 0, none⟩) 2 2] 42)).drewN nq).alloc (Obj.cells #[.int .u8 (n % 256), .int .u8 1] 5) = y := ⟨_, rfl⟩
    have hs : ((w.alloc (Obj.cells #[.bool false, .int .i64 0, .int .i64 0, .slice (some ⟨w.heap.size + 1, 0, none⟩) 2 2] 42)).drewN nq).heap.size = w.heap.size + 1 := World.size_alloc _ _
    have g0 : W.heap[w.heap.size]? = some (.cells #[.bool false, .int .i64 0, .int .i64 0, .slice (some ⟨w.heap.size + 1, 0, none⟩) 2 2] 42 (0, 0)) := by rw [← hW]; exact (Below.heap_alloc _ _ _ (by rw [hs]; omega)).trans (blk_new w _)
    have g1 : W.heap[w.heap.size + 1]? = some (.cells #[.int .u8 (n % 256), .int .u8 1] 5 (0, 0)) := by
      rw [← hW]
      have := blk_new ((w.alloc (Obj.cells #[.bool false, .int .i64 0, .int .i64 0, .slice (some ⟨w.heap.size + 1, 0, none⟩) 2 2] 42)).drewN nq) (Obj.cells #[.int .u8 (n % 256), .int .u8 1] 5)
      rwa [hs] at this
    have hB : Below w.heap.size w W := by rw [← hW]; exact below_alloc (pw_below_drewN (below_alloc (Below.refl _ _) _) nq) _
    rw [hW]
    have hown : W.ownsRow w.heap.size 5 1 (.slice (some ⟨w.heap.size + 1, 0, none⟩) 2 2) 2 [.int .u8 (n % 256), .int .u8 1] := ⟨rfl, .inr ⟨w.heap.size + 1, 2, _, rfl, Nat.le_succ _, g1, Nat.le_refl _, by decide, rfl, rfl⟩⟩
    have hR : (Kd.int .u8).R 5 W w.heap.size (fun k => w.heap.size ≤ k) (.slice (some ⟨w.heap.size + 1, 0, none⟩) 2 2) [n % 256, 1] := Kd.R_of_own hown (fun k hk => own_base hown k hk)
    refine bodyPost_ret (results_cell_row rfl _ _ w.heap.size 42 _ (0, 0) _ rfl g0 Try.underlying42 rfl (by kernel_rfl)) rfl ⟨_, 2, rfl, Nat.le_refl _, Kd.R_F hR, hB⟩
  · have cab : (a == 0) = false := beq_eq_false_iff_ne.mpr ca
    have hh := H.out
    rw [if_neg ca] at hh
    rcases h2 : packthreadkeep_Picked.f (wrap64 (Int.tdiv n 3)) (wrap64 ((L : Int) + 1)) with _ | f
    · rw [h2] at hh; exact absurd hh (by simp)
    rw [h2, Option.bind_some] at hh
    rcases h3 : packthreadkeep_Picked.f (wrap64 (Int.tdiv n 601)) (wrap64 (wrap64 ((L : Int) - f) + 1)) with _ | l
    · rw [h3] at hh; exact absurd hh (by simp)
    rw [h3, Option.bind_some] at hh
    injection hh with hh
    subst hh
    have H2 := Aside0.mk h2
    have H3 := Aside0.mk h3
    clear h2 h3
    go_wp2_with (first
      | ((with_reducible refine gate_callee (f := 12) rfl ?_); refine goesL_ _ rfl rfl Try.func12 (by kernel_rfl) rfl #[.int .i64 n, .int .i64 3] rfl (by (try simp only [List.map_toArray, List.map_cons, List.map_nil]); first | done | rfl) ?_; refine (packthreadkeep_Picked.calls n 3 a _ H1.out).mono ?_; rintro e w5 ⟨rfl, hb5⟩; refine ⟨_, rfl, ?_⟩; obtain ⟨⟨nq, rfl⟩⟩ := hb5)
      | ((with_reducible refine gate_callee (f := 12) rfl ?_); refine goesL_ _ rfl rfl Try.func12 (by kernel_rfl) rfl #[.int .i64 (wrap64 (Int.tdiv n 3)), .int .i64 (wrap64 ((L : Int) + 1))] rfl (by (try simp only [List.map_toArray, List.map_cons, List.map_nil]); first | done | rfl) ?_; refine (packthreadkeep_Picked.calls _ _ f _ H2.out).mono ?_; rintro e w5 ⟨rfl, hb5⟩; refine ⟨_, rfl, ?_⟩; obtain ⟨⟨nq2, rfl⟩⟩ := hb5)
      | ((with_reducible refine gate_callee (f := 12) rfl ?_); refine goesL_ _ rfl rfl Try.func12 (by kernel_rfl) rfl #[.int .i64 (wrap64 (Int.tdiv n 601)), .int .i64 (wrap64 (wrap64 ((L : Int) - f) + 1))] rfl (by (try simp only [List.map_toArray, List.map_cons, List.map_nil]); first | done | rfl) ?_; refine (packthreadkeep_Picked.calls _ _ l _ H3.out).mono ?_; rintro e w5 ⟨rfl, hb5⟩; refine ⟨_, rfl, ?_⟩; obtain ⟨⟨nq3, rfl⟩⟩ := hb5))
    exact bodyPost_ret (results_cell_row rfl _ _ w.heap.size 42 _ (0, 0) _ rfl (blk_drewN (blk_new w _) _) Try.underlying42 rfl (by kernel_rfl)) rfl ⟨none, ⟨0, rfl⟩, Kd.F_nil _ _ _, pw_below_drewN (below_alloc (Below.refl _ _) _) _⟩
theorem two_blocks_ (w : World) (a b : Obj) : ((w.alloc a).alloc b).heap[w.heap.size]? = some a ∧ ((w.alloc a).alloc b).heap[w.heap.size + 1]? = some b := by
  have e : (w.alloc a).heap.size = w.heap.size + 1 := by simp
  refine ⟨(Below.heap_alloc _ _ _ (by omega)).trans Array.getElem?_push_size, ?_⟩
  have h : ((w.alloc a).alloc b).heap[(w.alloc a).heap.size]? = some b := Array.getElem?_push_size
  rwa [e] at h
theorem lit7 {W : World} {g : Nat} (h : W.heap[g]? = some (.cells #[.int .u8 7] 5 (0, 0))) : Kd.C (Kd.int .u8) W (some ⟨g, 0, none⟩) 1 [7] := by
  have hown : W.ownsRow 0 5 1 (.slice (some ⟨g, 0, none⟩) 1 1) 1 [.int .u8 7] := ⟨rfl, .inr ⟨g, 1, _, rfl, Nat.zero_le _, h, Nat.le_refl _, by decide, rfl, rfl⟩⟩
  have hR : (Kd.int .u8).R 5 W 0 (fun _ => True) (.slice (some ⟨g, 0, none⟩) 1 1) [7] := Kd.R_of_own hown (fun _ _ => trivial)
  exact (Kd.R_reads' hR).2.2
theorem litP {W : World} {g : Nat} (h : W.heap[g]? = some (.cells #[.bool true, .int .i64 0, .int .i64 1, .slice none 0 0] 42 (0, 0))) : Kd.C k42 W (some ⟨g, 0, none⟩) 1 [(⟨true, 0, 1, []⟩ : S42)] := by
  have hown : W.ownsRow 0 42 4 (.slice (some ⟨g, 0, none⟩) 1 1) 1 [.bool true, .int .i64 0, .int .i64 1, .slice none 0 0] := ⟨rfl, .inr ⟨g, 1, _, rfl, Nat.zero_le _, h, Nat.le_refl _, by decide, rfl, rfl⟩⟩
  have hR : k42.R 42 W 0 (fun _ => True) (.slice (some ⟨g, 0, none⟩) 1 1) [(⟨true, 0, 1, []⟩ : S42)] := ⟨fun _ _ => trivial, _, hown, Reps.c4 (k42_mkM _ _ _ _ (Kd.R_nil _ _ _ _ _)) (Reps.none _ _)⟩
  exact (Kd.R_reads' hR).2.2
set_option maxHeartbeats 8000000 in
set_option maxRecDepth 100000 in
theorem patchParts_calls (k : Nat) (A0 : Option Addr) (c0 : Nat) (l0 : List Int) (A1 : Option Addr) (c1 : Nat) (l1 : List Int) (A2 : Option Addr) (c2 : Nat) (l2 : List Int) (old x y z one : List Int) (ps qs : List S42) (w : World) (hr0 : Kd.C (Kd.int .u8) w A0 l0.length l0) (hc0 : l0.length ≤ c0) (hr1 : Kd.C (Kd.int .i64) w A1 l1.length l1) (hc1 : l1.length ≤ c1) (hr2 : Kd.C (Kd.int .i64) w A2 l2.length l2) (hc2 : l2.length ≤ c2)
    (hO : packthreadkeep_Octets.f l0 200 = some old) (hol : old.length ≤ 200) (ha : ps.length = min l1.length 4) (hb : qs.length = min l2.length 4)
    (hA : ∀ j : Nat, j < ps.length → pieceF old.length (rd l1 (j : Int)) = some (rd_T42 ps (j : Int))) (hB : ∀ j : Nat, j < qs.length → pieceF old.length (rd l2 (j : Int)) = some (rd_T42 qs (j : Int)))
    (hX : delta_Patch.f k old ps = some (x, 0)) (hY : delta_Patch.f k old qs = some (y, 0)) (hZ : delta_Patch.f k old (ps ++ qs) = some (z, 0)) (h1 : delta_Patch.f k [7] [(⟨true, 0, 1, []⟩ : S42)] = some (one, 0))
    (hs1 : packthreadkeep_sameBytes.f k one [7] = some true) (hs2 : packthreadkeep_sameBytes.f k z (x ++ y) = some true) (hxl : x.length ≤ 4096) (hyl : y.length ≤ 4096) :
    Calls Try.prog 6 #[.slice A0 l0.length c0, .slice A1 l1.length c1, .slice A2 l2.length c2] w fun e w' => e = .returned (.bool true) ∧ Below w.heap.size w w' := by
  have hu42 := Try.underlying42
  have HR0 := Aside0.mk hr0
  have HR1 := Aside0.mk hr1
  have HR2 := Aside0.mk hr2
  have HO := Aside0.mk hO
  have HOL := Aside0.mk hol
  have HAL := Aside0.mk ha
  have HBL := Aside0.mk hb
  have HPA := Aside0.mk hA
  have HPB := Aside0.mk hB
  have HX := Aside0.mk hX
  have HY := Aside0.mk hY
  have HZ := Aside0.mk hZ
  have H1 := Aside0.mk h1
  have HS1 := Aside0.mk hs1
  have HS2 := Aside0.mk hs2
  have HXL := Aside0.mk hxl
  have HYL := Aside0.mk hyl
  clear hr0 hr1 hr2 hO hol ha hb hA hB hX hY hZ h1 hs1 hs2 hxl hyl
  go_enter Try.func6, Try.ntmps6
  go_upto_region 5 with (first
    | ((with_reducible refine gate_callee (f := 14) rfl ?_); refine goesL_ _ rfl rfl Try.func14 (by kernel_rfl) rfl #[.slice A0 l0.length c0, .int .i64 200] rfl (by (try simp only [List.map_toArray, List.map_cons, List.map_nil]); first | done | rfl) ?_; refine (packthreadkeep_Octets.calls A0 c0 l0 200 old _ HR0.out hc0 HO.out).mono ?_; rintro e w5 ⟨v0, rfl, ho, hb5⟩; refine ⟨_, rfl, ?_⟩; obtain ⟨A5, c5, hv5, hlc5, hC5⟩ := Kd.R_reads ho; subst hv5; have HC5 := Aside0.mk hC5; have HLC5 := Aside0.mk hlc5; have HB5 := Aside0.mk hb5; clear ho hb5 hlc5 hC5))
  have HOB0 := Aside0.mk (blk_new w5 (Obj.cells #[.slice A5 old.length c5] 23))
  have HB1 := Aside0.mk (below_alloc HB5.out (Obj.cells #[.slice A5 old.length c5] 23))
  have HC1 := Aside0.mk (Kd.C_below HC5.out (below_alloc (Below.refl _ _) (Obj.cells #[.slice A5 old.length c5] 23)))
  obtain ⟨W1, hW1⟩ : ∃ y, w5.alloc (Obj.cells #[.slice A5 old.length c5] 23) = y := ⟨_, rfl⟩
  rw [hW1] at HOB0 HB1 HC1 ⊢
  have HOB1 := HOB0
  clear hW1
  go_upto_block 0 with (fail)
  go_cut [8] (fun v8 wc => Aside0 (Kd.N k42 42 wc W1.heap.size (fun _ => True) v8 ps) ∧ Aside0 (Below W1.heap.size W1 wc))
  case first =>
    go_wp2
    go_loopw [8, 11] (fun v8 v11 wr => ∃ j : Nat, j ≤ ps.length ∧ v11 = .int .i64 (j : Int) ∧ Aside0 (Kd.N k42 42 wr W1.heap.size (fun _ => True) v8 (ps.take j)) ∧ Aside0 (Below W1.heap.size W1 wr)) (fun _ v11 _ => ps.length - (intOf v11).toNat)
    case atStart => exact ⟨0, Nat.zero_le _, rfl, ⟨Kd.N_nil _ _ _ _ _⟩, ⟨Below.refl _ _⟩⟩
    case round =>
      obtain ⟨j, hj, rfl, HN, HW⟩ := hrel
      obtain ⟨wo, hwo⟩ : ∃ wo : World, wo = wr := ⟨_, rfl⟩
      subst hwo
      have hpl := HAL.out
      by_cases k0 : j < ps.length
      · have k0a : decide ((j : Int) < (l1.length : Int)) = true := decide_eq_true (by omega)
        have k0b : decide ((j : Int) < 4) = true := decide_eq_true (by omega)
        have k0n : j < l1.length := by omega
        have k04 : j < 4 := by omega
        obtain ⟨ad, rfl, hs⟩ := Kd.at_int (Kd.C_below HR1.out (below_step HB1.out HW.out)) (j : Int) (by omega) (by omega)
        rw [Int.toNat_natCast] at hs
        obtain ⟨zz, hz⟩ : ∃ zz, rd l1 (j : Int) = zz := ⟨_, rfl⟩
        have HP := Aside0.mk (HPA.out j k0)
        rw [hz] at hs HP
        obtain ⟨p, hp⟩ : ∃ p, rd_T42 ps (j : Int) = p := ⟨_, rfl⟩
        rw [hp] at HP
        have HTK := Aside0.mk (show ps.take (j + 1) = ps.take j ++ [p] by rw [← hp, rd_T42, Int.toNat_natCast, List.take_add, List.drop_eq_getElem_cons k0, List.getD_eq_getElem?_getD, List.getElem?_eq_getElem k0]; rfl)
        clear hz hp hpl
        go_wp2_with (fail)
        refine (piece_calls zz w5.heap.size A5 old.length c5 wo (blk_below HOB1.out HW.out) p HP.out).mono ?_
        rintro e w6 ⟨A3, c3, rfl, hl3, hF, hb6⟩
        have HL3 := Aside0.mk hl3
        have HF3 := Aside0.mk hF
        have HB6 := Aside0.mk hb6
        clear hl3 hF hb6
        have HN6 := Aside0.mk (Kd.N_below HN.out HB6.out)
        have HW6 := Aside0.mk (below_step HW.out HB6.out)
        have HSZ := Aside0.mk HW6.out.size
        have HK4 : Aside0 ((ps.take j).length ≤ 4) := ⟨by rw [List.length_take]; have := HAL.out; omega⟩
        go_wp2_with (first
          | ((with_reducible refine gate_builtin (b := .append) (xs := #[.tmp 34, .tmp 41]) rfl ?_); at_builtin; refine Kd.N_append k42 (w0 := w6) (W := w6) W1.heap.size rfl (.tmp 34) (.tmp 41) 40 42 (.agg #[.bool false, .int .i64 0, .int .i64 0, .slice none 0 0]) 48 rfl Try.underlying40 info42 rfl (by decide) (by decide) _ (ps.take j) p [.bool p.f0, .int .i64 p.f1, .int .i64 p.f2, .slice A3 p.f3.length c3] (fun _ => True) (fun k => wo.heap.size ≤ k) rfl rfl (k42_mkF w6 _ p HL3.out HF3.out) ?aK (fun _ _ => trivial) ?aO (Below.refl _ _) ?aS ?aL ?_; (case aK => exact fun k hk => ⟨trivial, fun e => by have := Kd.N_lt HN.out k e.symm; omega⟩); (case aO => exact HN6.out); (case aS => exact HSZ.out); (case aL => have := HK4.out; omega); intro v1 w7 ho hb7 hg7 hat7; have HN7 := Aside0.mk ho; have HB7 := Aside0.mk hb7; clear ho hb7 hg7 hat7))
        refine ⟨⟨j + 1, by omega, by go_num, ⟨by rw [HTK.out]; exact HN7.out⟩, ⟨HW6.out.trans HB7.out⟩⟩, by simp [intOf]; omega⟩
      · obtain rfl : j = ps.length := by omega
        rw [List.take_length] at HN
        by_cases k1 : ps.length < l1.length
        · have k0a : decide ((ps.length : Int) < (l1.length : Int)) = true := decide_eq_true (by omega)
          have k0b : decide ((ps.length : Int) < 4) = false := decide_eq_false (by omega)
          clear hpl
          go_wp2
          go_meet
          case rel => exact ⟨HN, HW⟩
        · have k0a : decide ((ps.length : Int) < (l1.length : Int)) = false := decide_eq_false (by omega)
          clear hpl
          go_wp2
          go_meet
          case rel => exact ⟨HN, HW⟩
  case rest =>
    obtain ⟨HN1, HW1⟩ := hcut
    obtain ⟨W2, hW2⟩ : ∃ y : World, y = wc := ⟨_, rfl⟩
    subst hW2
    obtain ⟨Aa, ca, rfl, hla, hCa⟩ := Kd.N_reads HN1.out
    have HCa := Aside0.mk hCa
    have HLa := Aside0.mk hla
    have HB2 := Aside0.mk (below_step HB1.out HW1.out)
    have HOB2 := Aside0.mk (blk_below HOB1.out HW1.out)
    have HC2 := Aside0.mk (Kd.C_below HC1.out HW1.out)
    clear hla hCa
    go_upto_block 2 with (fail)
    go_cut [9] (fun v8 wc => Aside0 (Kd.N k42 42 wc W2.heap.size (fun _ => True) v8 qs) ∧ Aside0 (Below W2.heap.size W2 wc))
    case first =>
      go_wp2
      go_loopw [9, 12] (fun v8 v11 wr => ∃ j : Nat, j ≤ qs.length ∧ v11 = .int .i64 (j : Int) ∧ Aside0 (Kd.N k42 42 wr W2.heap.size (fun _ => True) v8 (qs.take j)) ∧ Aside0 (Below W2.heap.size W2 wr)) (fun _ v11 _ => qs.length - (intOf v11).toNat)
      case atStart => exact ⟨0, Nat.zero_le _, rfl, ⟨Kd.N_nil _ _ _ _ _⟩, ⟨Below.refl _ _⟩⟩
      case round =>
        obtain ⟨j, hj, rfl, HN, HW⟩ := hrel
        obtain ⟨wo, hwo⟩ : ∃ wo : World, wo = wr := ⟨_, rfl⟩
        subst hwo
        have hpl := HBL.out
        by_cases k0 : j < qs.length
        · have k0a : decide ((j : Int) < (l2.length : Int)) = true := decide_eq_true (by omega)
          have k0b : decide ((j : Int) < 4) = true := decide_eq_true (by omega)
          have k0n : j < l2.length := by omega
          have k04 : j < 4 := by omega
          obtain ⟨ad, rfl, hs⟩ := Kd.at_int (Kd.C_below HR2.out (below_step HB2.out HW.out)) (j : Int) (by omega) (by omega)
          rw [Int.toNat_natCast] at hs
          obtain ⟨zz, hz⟩ : ∃ zz, rd l2 (j : Int) = zz := ⟨_, rfl⟩
          have HP := Aside0.mk (HPB.out j k0)
          rw [hz] at hs HP
          obtain ⟨p, hp⟩ : ∃ p, rd_T42 qs (j : Int) = p := ⟨_, rfl⟩
          rw [hp] at HP
          have HTK := Aside0.mk (show qs.take (j + 1) = qs.take j ++ [p] by rw [← hp, rd_T42, Int.toNat_natCast, List.take_add, List.drop_eq_getElem_cons k0, List.getD_eq_getElem?_getD, List.getElem?_eq_getElem k0]; rfl)
          clear hz hp hpl
          go_wp2_with (fail)
          refine (piece_calls zz w5.heap.size A5 old.length c5 wo (blk_below HOB2.out HW.out) p HP.out).mono ?_
          rintro e w6 ⟨A3, c3, rfl, hl3, hF, hb6⟩
          have HL3 := Aside0.mk hl3
          have HF3 := Aside0.mk hF
          have HB6 := Aside0.mk hb6
          clear hl3 hF hb6
          have HN6 := Aside0.mk (Kd.N_below HN.out HB6.out)
          have HW6 := Aside0.mk (below_step HW.out HB6.out)
          have HSZ := Aside0.mk HW6.out.size
          have HK4 : Aside0 ((qs.take j).length ≤ 4) := ⟨by rw [List.length_take]; have := HBL.out; omega⟩
          go_wp2_with (first
            | ((with_reducible refine gate_builtin (b := .append) (xs := #[.tmp 53, .tmp 60]) rfl ?_); at_builtin; refine Kd.N_append k42 (w0 := w6) (W := w6) W2.heap.size rfl (.tmp 53) (.tmp 60) 40 42 (.agg #[.bool false, .int .i64 0, .int .i64 0, .slice none 0 0]) 48 rfl Try.underlying40 info42 rfl (by decide) (by decide) _ (qs.take j) p [.bool p.f0, .int .i64 p.f1, .int .i64 p.f2, .slice A3 p.f3.length c3] (fun _ => True) (fun k => wo.heap.size ≤ k) rfl rfl (k42_mkF w6 _ p HL3.out HF3.out) ?aK (fun _ _ => trivial) ?aO (Below.refl _ _) ?aS ?aL ?_; (case aK => exact fun k hk => ⟨trivial, fun e => by have := Kd.N_lt HN.out k e.symm; omega⟩); (case aO => exact HN6.out); (case aS => exact HSZ.out); (case aL => have := HK4.out; omega); intro v1 w7 ho hb7 hg7 hat7; have HN7 := Aside0.mk ho; have HB7 := Aside0.mk hb7; clear ho hb7 hg7 hat7))
          refine ⟨⟨j + 1, by omega, by go_num, ⟨by rw [HTK.out]; exact HN7.out⟩, ⟨HW6.out.trans HB7.out⟩⟩, by simp [intOf]; omega⟩
        · obtain rfl : j = qs.length := by omega
          rw [List.take_length] at HN
          by_cases k1 : qs.length < l2.length
          · have k0a : decide ((qs.length : Int) < (l2.length : Int)) = true := decide_eq_true (by omega)
            have k0b : decide ((qs.length : Int) < 4) = false := decide_eq_false (by omega)
            clear hpl
            go_wp2
            go_meet
            case rel => exact ⟨HN, HW⟩
          · have k0a : decide ((qs.length : Int) < (l2.length : Int)) = false := decide_eq_false (by omega)
            clear hpl
            go_wp2
            go_meet
            case rel => exact ⟨HN, HW⟩
    case rest =>
      obtain ⟨HN2, HW2⟩ := hcut
      obtain ⟨W3, hW3⟩ : ∃ y : World, y = wc := ⟨_, rfl⟩
      subst hW3
      obtain ⟨Ab, cb, rfl, hlb, hCb⟩ := Kd.N_reads HN2.out
      have HCb := Aside0.mk hCb
      have HLb := Aside0.mk hlb
      have HB3 := Aside0.mk (below_step HB2.out HW2.out)
      have HOB3 := Aside0.mk (blk_below HOB2.out HW2.out)
      have HC3 := Aside0.mk (Kd.C_below HC2.out HW2.out)
      have HCa3 := Aside0.mk (Kd.C_below HCa.out HW2.out)
      have t3 : W3.cell? ⟨w5.heap.size, 0, none⟩ = some (.slice A5 old.length c5) := by rw [blk_cell HOB3.out]; rfl
      clear hlb hCb
      go_upto_region 14 with (first
        | ((with_reducible refine gate_callee (f := 16) rfl ?_); refine goesL_ _ rfl rfl Try.func16 (by kernel_rfl) rfl #[.slice A5 old.length c5, .slice Aa ps.length ca] rfl (by (try simp only [List.map_toArray, List.map_cons, List.map_nil]); first | done | rfl) ?_; refine (delta_Patch.calls k A5 c5 old Aa ca ps x 0 _ HC3.out HLC5.out HCa3.out HLa.out HX.out).mono ?_; rintro e w6 ⟨v6, rfl, ho, hb6⟩; refine ⟨_, rfl, ?_⟩; obtain ⟨A6, c6, hv6, hlc6, hC6⟩ := Kd.R_reads ho; subst hv6; have HC6 := Aside0.mk hC6; have HLC6 := Aside0.mk hlc6; have HB6 := Aside0.mk hb6; have HF6 := Aside0.mk (Kd.R_F ho); clear ho hb6 hlc6 hC6))
      have HOB4 := Aside0.mk (blk_below HOB3.out HB6.out)
      have t4 : w6.cell? ⟨w5.heap.size, 0, none⟩ = some (.slice A5 old.length c5) := by rw [blk_cell HOB4.out]; rfl
      have HC4 := Aside0.mk (Kd.C_below HC3.out HB6.out)
      have HCb4 := Aside0.mk (Kd.C_below HCb.out HB6.out)
      clear t3
      go_upto_region 15 with (first
        | ((with_reducible refine gate_callee (f := 16) rfl ?_); refine goesL_ _ rfl rfl Try.func16 (by kernel_rfl) rfl #[.slice A5 old.length c5, .slice Ab qs.length cb] rfl (by (try simp only [List.map_toArray, List.map_cons, List.map_nil]); first | done | rfl) ?_; refine (delta_Patch.calls k A5 c5 old Ab cb qs y 0 _ HC4.out HLC5.out HCb4.out HLb.out HY.out).mono ?_; rintro e w7 ⟨v7, rfl, ho, hb7⟩; refine ⟨_, rfl, ?_⟩; obtain ⟨A7, c7, hv7, hlc7, hC7⟩ := Kd.R_reads ho; subst hv7; have HC7 := Aside0.mk hC7; have HLC7 := Aside0.mk hlc7; have HB7 := Aside0.mk hb7; clear ho hb7 hlc7 hC7))
      have HOB5 := Aside0.mk (blk_below HOB4.out HB7.out)
      have t5 : w7.cell? ⟨w5.heap.size, 0, none⟩ = some (.slice A5 old.length c5) := by rw [blk_cell HOB5.out]; rfl
      have hb0 := blk_lt HOB5.out
      clear t4
      have HFA := Aside0.mk (Kd.F_bound (Kd.F_below (Kd.N_F HN1.out) (below_step (below_step HW2.out HB6.out) HB7.out)))
      have HFB := Aside0.mk (Kd.F_bound (Kd.F_below (Kd.N_F HN2.out) (below_step HB6.out HB7.out)))
      have HC5' := Aside0.mk (Kd.C_below HC4.out HB7.out)
      have HK4 : Aside0 (ps.length ≤ 4 ∧ qs.length ≤ 4) := ⟨by have := HAL.out; have := HBL.out; omega⟩
      have t5' := pw_cell_below (below_drew (Below.refl _ w7)) t5
      go_cut [17, 18] (fun v17 v18 wc => v18 = .int .i64 0 ∧ Aside0 (Kd.R (Kd.int .u8) 5 wc w7.heap.size (fun _ => True) v17 z) ∧ Aside0 (Below w7.heap.size w7 wc))
      case first =>
        go_region_law (first
          | (refine Kd.N_append_rows_step k42 (w0 := w7.drew) (W := w7.drew) w7.heap.size rfl (.const (.slice none 0 0)) (.tmp 76) 40 42 (.agg #[.bool false, .int .i64 0, .int .i64 0, .slice none 0 0]) 48 rfl Try.underlying40 info42 rfl (by decide) (by decide) (.slice none 0 0) [] ps Aa ps.length ca (fun _ => True) (fun k => k < w7.heap.size) ?aV ?aX (Kd.N_nil _ _ _ _ _) ?aR ?aP (fun _ _ => trivial) (Below.refl _ _) (Nat.le_refl _) ?aL ?_; (case aV => rfl); (case aX => rfl); (case aR => exact Kd.F_mono (Kd.F_below HFA.out (below_drew (Below.refl _ _))) (fun k hk => hk.2)); (case aP => exact fun k hk => ⟨trivial, by simp [Value.ownBlock]⟩); (case aL => have := HK4.out; simp only [List.length_nil]; omega); intro v8 w8 ho hb8 hg8 hat8; obtain ⟨A8, c8, hv8⟩ := Kd.N_slice ho; subst hv8; have HN8 := Aside0.mk ho; have HB8 := Aside0.mk hb8; have t8 := pw_cell_below hb8 t5'; clear ho hb8 hg8 hat8)
          | (refine Kd.N_append_rows_step k42 (w0 := w8) (W := w8) w7.heap.size rfl (.tmp 77) (.tmp 78) 40 42 (.agg #[.bool false, .int .i64 0, .int .i64 0, .slice none 0 0]) 48 rfl Try.underlying40 info42 rfl (by decide) (by decide) (.slice A8 ([] ++ ps).length c8) ([] ++ ps) qs Ab qs.length cb (fun _ => True) (fun k => k < w7.heap.size) ?aV ?aX HN8.out ?aR ?aP (fun _ _ => trivial) (Below.refl _ _) ?aS ?aL ?_; (case aV => rfl); (case aX => rfl); (case aR => exact Kd.F_mono (Kd.F_below (Kd.F_below HFB.out (below_drew (Below.refl _ _))) HB8.out) (fun k hk => hk.2)); (case aP => exact fun k hk => ⟨trivial, fun e => by have := Kd.N_base HN8.out k e.symm; omega⟩); (case aS => exact HB8.out.size); (case aL => have := HK4.out; simp only [List.nil_append]; omega); intro v9 w9 ho hb9 hg9 hat9; obtain ⟨A9, c9, hv9, hlc9, hC9⟩ := Kd.N_reads ho; subst hv9; have HC9 := Aside0.mk hC9; have HLC9 := Aside0.mk hlc9; have HB9 := Aside0.mk (HB8.out.trans hb9); have t9 := pw_cell_below HB9.out t5'; clear ho hb9 hg9 hat9 hlc9 hC9)
          | (refine goes_ Try.func16 (by kernel_rfl) rfl #[.slice A5 old.length c5, .slice A9 (ps.length + qs.length) c9] rfl rfl rfl (by (try simp only [List.map_toArray, List.map_cons, List.map_nil]); first | done | rfl) ?_; rw [show ps.length + qs.length = ([] ++ ps ++ qs).length by rw [List.nil_append, List.length_append]]; refine (delta_Patch.calls k A5 c5 old A9 c9 ([] ++ ps ++ qs) z 0 _ (Kd.C_below (Kd.C_below HC5'.out (below_drew (Below.refl _ _))) HB9.out) HLC5.out HC9.out HLC9.out HZ.out).mono ?_; rintro e w10 ⟨v10, rfl, ho, hb10⟩; refine ⟨_, rfl, ?_⟩; have HO10 := Aside0.mk (Kd.R_lower ho HB9.out.size); have HB10 := Aside0.mk (below_then HB9.out HB9.out.size hb10); clear ho hb10))
        all_goals
          go_wp2
          go_meet
          case rel => exact ⟨rfl, HO10, ⟨(Below.refl _ w7).drew.trans HB10.out⟩⟩
      case rest =>
        obtain ⟨rfl, HOZ, HWZ⟩ := hcut
        obtain ⟨W6, hW6⟩ : ∃ y : World, y = wc := ⟨_, rfl⟩
        subst hW6
        obtain ⟨Az, cz, rfl, hlz, hCz⟩ := Kd.R_reads HOZ.out
        have HCz := Aside0.mk hCz
        have HLz := Aside0.mk hlz
        have HCx := Aside0.mk (Kd.C_below (Kd.C_below HC6.out HB7.out) HWZ.out)
        have HCy := Aside0.mk (Kd.C_below HC7.out HWZ.out)
        have HB6' := Aside0.mk (below_step (below_step (below_step HB3.out HB6.out) HB7.out) HWZ.out)
        clear hlz hCz t5 t5' hb0 HFA HFB HC5' HC4 HC3 HC2 HC1 HCa HCb HCa3 HCb4 HN1 HN2 HOB0 HOB1 HOB2 HOB3 HOB4 HOB5
        go_upto_region 17 with (first
          | ((with_reducible refine gate_callee (f := 16) rfl ?_); refine goesL_ _ rfl rfl Try.func16 (by kernel_rfl) rfl #[.slice (some ⟨W6.heap.size, 0, none⟩) 1 1, .slice (some ⟨W6.heap.size + 1, 0, none⟩) 1 1] rfl (by (try simp only [List.map_toArray, List.map_cons, List.map_nil]); first | done | rfl) ?_; refine (delta_Patch.calls k (some ⟨W6.heap.size, 0, none⟩) 1 [7] (some ⟨W6.heap.size + 1, 0, none⟩) 1 [(⟨true, 0, 1, []⟩ : S42)] one 0 _ (lit7 (two_blocks_ W6 _ _).1) (Nat.le_refl _) (litP (two_blocks_ W6 _ _).2) (Nat.le_refl _) H1.out).mono ?_; rintro e w11 ⟨v11, rfl, ho, hb11⟩; refine ⟨_, rfl, ?_⟩; obtain ⟨A11, c11, hv11, hlc11, hC11⟩ := Kd.R_reads ho; subst hv11; have HC11 := Aside0.mk hC11; have HLC11 := Aside0.mk hlc11; have HB11 := Aside0.mk (below_step (below_alloc (below_alloc (Below.refl _ W6) _) _) hb11); clear ho hb11 hlc11 hC11))
        have HCx' := Aside0.mk (Kd.C_below HCx.out HB11.out)
        have HCy' := Aside0.mk (Kd.C_below HCy.out HB11.out)
        have HCz' := Aside0.mk (Kd.C_below HCz.out HB11.out)
        go_wp2_with (first
          | ((with_reducible refine gate_callee (f := 13) rfl ?_); (try (refine gate_guard (by rfl) ?_; dsimp only)); refine goesL_ _ rfl rfl Try.func13 (by kernel_rfl) rfl #[.slice A11 one.length c11, .slice (some ⟨w11.heap.size, 0, none⟩) 1 1] rfl (by (try simp only [List.map_toArray, List.map_cons, List.map_nil]); first | done | rfl) ?_; refine (packthreadkeep_sameBytes.calls k A11 c11 one (some ⟨w11.heap.size, 0, none⟩) 1 [7] true _ (Kd.C_below HC11.out (below_alloc (Below.refl _ _) _)) HLC11.out (lit7 (blk_new w11 _)) (Nat.le_refl _) HS1.out).mono ?_; rintro e w12 ⟨rfl, hd⟩; refine ⟨_, rfl, ?_⟩; have HB12 := Aside0.mk (below_step (below_alloc (Below.refl _ w11) (Obj.cells #[.int .u8 7] 5)) hd.below); clear hd)
          | ((with_reducible refine gate_builtin (b := .append) (xs := #[.const (.slice none 0 0), .tmp 111]) rfl ?_); (try (refine gate_guard (by rfl) ?_; dsimp only)); at_builtin; refine Kd.R_append_rows (Kd.int .u8) (Rr := (Kd.int .u8).K w12) (w0 := w12) (W := w12) w11.heap.size rfl (.const (.slice none 0 0)) (.tmp 111) 23 5 (.int .u8 0) 1 rfl Try.underlying23 info5 rfl (by decide) (by decide) (.slice none 0 0) [] x A6 x.length c6 (fun _ => True) (fun _ => False) ?aV ?aX (Kd.R_nil _ _ _ _ _) (Kd.C_below HCx'.out HB12.out) (fun _ _ h => h) (fun _ h => h.elim) (fun _ _ => trivial) (Below.refl _ _) HB12.out.size ?aL ?_; (case aV => rfl); (case aX => rfl); (case aL => have := HXL.out; simp only [List.length_nil]; omega); intro v13 w13 ho hb hg hat; obtain ⟨A13, c13, hv13⟩ := Kd.R_slice ho; subst hv13; have HO13 := Aside0.mk ho; have HB13 := Aside0.mk (HB12.out.trans hb); clear ho hb hg hat)
          | ((with_reducible refine gate_builtin (b := .append) (xs := #[.tmp 112, .tmp 113]) rfl ?_); (try (refine gate_guard (by rfl) ?_; dsimp only)); at_builtin; refine Kd.R_append_rows (Kd.int .u8) (Rr := (Kd.int .u8).K w13) (w0 := w13) (W := w13) w11.heap.size rfl (.tmp 112) (.tmp 113) 23 5 (.int .u8 0) 1 rfl Try.underlying23 info5 rfl (by decide) (by decide) (.slice A13 ([] ++ x).length c13) ([] ++ x) y A7 y.length c7 (fun _ => True) (fun _ => False) ?aV ?aX HO13.out (Kd.C_below HCy'.out HB13.out) (fun _ _ h => h) (fun _ h => h.elim) (fun _ _ => trivial) (Below.refl _ _) HB13.out.size ?aL ?_; (case aV => rfl); (case aX => rfl); (case aL => have := HXL.out; have := HYL.out; simp only [List.nil_append]; omega); intro v14 w14 ho hb hg hat; obtain ⟨A14, c14, hv14, hlc14, hC14⟩ := Kd.R_reads ho; subst hv14; have HC14 := Aside0.mk hC14; have HLC14 := Aside0.mk hlc14; have HB14 := Aside0.mk (HB13.out.trans hb); clear ho hb hg hat hlc14 hC14))
        have hl : ([] ++ x ++ y).length = x.length + y.length := by rw [List.nil_append, List.length_append]
        have hc := packthreadkeep_sameBytes.calls k Az cz z A14 c14 ([] ++ x ++ y) true w14 (Kd.C_below HCz'.out HB14.out) HLz.out HC14.out HLC14.out HS2.out
        rw [hl] at hc
        refine hc.mono ?_
        rintro e w15 ⟨rfl, hd⟩
        have HB15 := Aside0.mk (below_step HB14.out hd.below)
        clear hd hc hl
        go_wp2
        go_ret
        exact ⟨by first | rfl | simp, below_step (below_step HB6'.out HB11.out) HB15.out⟩

/-- THE ONE PURE STATEMENT of packthreadkeep_PatchParts. -/
def packthreadkeep_PatchParts.Pure : Prop := ∀ (l0 : List Int) (l1 : List Int) (l2 : List Int), l0.length ≤ maxLen → l0.length * 1 ≤ 140737488351232 → (∀ x ∈ l0, (Lit.int .u8 x).wf = true) → l1.length ≤ maxLen → l1.length * 8 ≤ 140737488351232 → (∀ x ∈ l1, (Lit.int .i64 x).wf = true) → l2.length ≤ maxLen → l2.length * 8 ≤ 140737488351232 → (∀ x ∈ l2, (Lit.int .i64 x).wf = true) → ∃ (k : Nat) (old x y z one : List Int) (ps qs : List S42), packthreadkeep_Octets.f l0 200 = some old ∧ old.length ≤ 200 ∧ ps.length = min l1.length 4 ∧ qs.length = min l2.length 4 ∧ (∀ j : Nat, j < ps.length → pieceF old.length (rd l1 (j : Int)) = some (rd_T42 ps (j : Int))) ∧ (∀ j : Nat, j < qs.length → pieceF old.length (rd l2 (j : Int)) = some (rd_T42 qs (j : Int))) ∧ delta_Patch.f k old ps = some (x, 0) ∧ delta_Patch.f k old qs = some (y, 0) ∧ delta_Patch.f k old (ps ++ qs) = some (z, 0) ∧ delta_Patch.f k [7] [(⟨true, 0, 1, []⟩ : S42)] = some (one, 0) ∧ packthreadkeep_sameBytes.f k one [7] = some true ∧ packthreadkeep_sameBytes.f k z (x ++ y) = some true ∧ x.length ≤ 4096 ∧ y.length ≤ 4096
theorem packthreadkeep_PatchParts.walk (P : packthreadkeep_PatchParts.Pure) (a0 : Option Addr) (len0 cap0 : Nat) (z0 : List Int) (a1 : Option Addr) (len1 cap1 : Nat) (z1 : List Int) (a2 : Option Addr) (len2 cap2 : Nat) (z2 : List Int) (w : World) (w0 : (a0 = none ∧ len0 = 0 ∧ cap0 = 0 ∧ z0 = []) ∨ ∃ x, a0 = some x ∧ len0 ≤ cap0 ∧ cap0 ≤ maxLen ∧ z0.length = cap0 ∧ (∀ i, i < z0.length → w.cell? (x.add i) = some (.int .u8 (z0.getD i 0))) ∧ ∀ n ∈ z0, (Lit.int .u8 n).wf = true) (y0 : len0 * 1 ≤ 140737488351232) (w1 : (a1 = none ∧ len1 = 0 ∧ cap1 = 0 ∧ z1 = []) ∨ ∃ x, a1 = some x ∧ len1 ≤ cap1 ∧ cap1 ≤ maxLen ∧ z1.length = cap1 ∧ (∀ i, i < z1.length → w.cell? (x.add i) = some (.int .i64 (z1.getD i 0))) ∧ ∀ n ∈ z1, (Lit.int .i64 n).wf = true) (y1 : len1 * 8 ≤ 140737488351232) (w2 : (a2 = none ∧ len2 = 0 ∧ cap2 = 0 ∧ z2 = []) ∨ ∃ x, a2 = some x ∧ len2 ≤ cap2 ∧ cap2 ≤ maxLen ∧ z2.length = cap2 ∧ (∀ i, i < z2.length → w.cell? (x.add i) = some (.int .i64 (z2.getD i 0))) ∧ ∀ n ∈ z2, (Lit.int .i64 n).wf = true) (y2 : len2 * 8 ≤ 140737488351232) :
    Calls Try.prog 6 #[.slice a0 len0 cap0, .slice a1 len1 cap1, .slice a2 len2 cap2] w fun e w' => e = .returned (.bool true) ∧ Below w.heap.size w w' := by
  obtain ⟨l0, rfl, hr0, hm0, hw0, hc0⟩ := ReadsInt.ofRowC w0
  obtain ⟨l1, rfl, hr1, hm1, hw1, hc1⟩ := ReadsInt.ofRowC w1
  obtain ⟨l2, rfl, hr2, hm2, hw2, hc2⟩ := ReadsInt.ofRowC w2
  obtain ⟨k, old, x, y, z, one, ps, qs, hO, hol, ha, hb, hA, hB, hX, hY, hZ, h1, hs1, hs2, hxl, hyl⟩ := P l0 l1 l2 hm0 y0 hw0 hm1 y1 hw1 hm2 y2 hw2
  exact patchParts_calls k _ _ l0 _ _ l1 _ _ l2 old x y z one ps qs w (Kd.C_of_reads (d := (0 : Int)) (h1 := fun _ => rfl) hr0) hc0 (Kd.C_of_reads (d := (0 : Int)) (h1 := fun _ => rfl) hr1) hc1 (Kd.C_of_reads (d := (0 : Int)) (h1 := fun _ => rfl) hr2) hc2 hO hol ha hb hA hB hX hY hZ h1 hs1 hs2 hxl hyl

end Go.Proofs.Ytblkhkipbcpaiaa.PPatchParts
