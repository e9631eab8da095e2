/- Printed by a program of this session (wip/myprint.py): Go functions of the law as Lean functions, and the proof that the code comes to these answers. -/
import Derived.Test.YtblkhkipbcpaiaaPTopSealedx0
import Derived.Test.YtblkhkipbcpaiaaPTopSealedx1
namespace Go.Proofs.Ytblkhkipbcpaiaa.PTopSealed
open Go.RowKit Go.Proofs.YtblkhkipbcpaiaaW.PrintWords Go.Proofs.YtblkhkipbcpaiaaW.PrintLast Go.Proofs.YtblkhkipbcpaiaaW.PrintMore
attribute [local go_sem] max2_int min2_int max_two min_two max_three min_three max_four min_four   -- for this text's walks alone
attribute [local go_sem] pn_setCell_drewN
set_option linter.unusedVariables false
set_option linter.unusedSimpArgs false

/-! ### seg_Encode: function 9, by hand -/
theorem two_blocks_ (w : World) (a b : Obj) : ((w.alloc a).alloc b).heap[w.heap.size]? = some a ∧ ((w.alloc a).alloc b).heap[w.heap.size + 1]? = some b := by
  have e : (w.alloc a).heap.size = w.heap.size + 1 := by simp
  refine ⟨(Below.heap_alloc _ _ _ (by omega)).trans Array.getElem?_push_size, ?_⟩
  have h : ((w.alloc a).alloc b).heap[(w.alloc a).heap.size]? = some b := Array.getElem?_push_size
  rwa [e] at h
/-- a range of serial numbers -/
def SerR (r : S52) : Prop := 0 ≤ r.f0 ∧ r.f0 < 65536 ∧ 0 ≤ r.f1 ∧ r.f1 < 65536
theorem fault1_eq (r : S52) (h : SerR r) : seg_fault_1.f r.f0 r.f1 = some false := by
  obtain ⟨h0, h1, h2, h3⟩ := h
  unfold seg_fault_1.f seg_serial.f
  rw [if_pos (by omega), Option.bind_some, decide_eq_true h1, if_pos rfl, if_pos (by omega), Option.bind_some, decide_eq_true h3]
  rfl
set_option maxHeartbeats 4000000 in
set_option maxRecDepth 100000 in
theorem seg_index_calls (A : Option Addr) (c : Nat) (l : List S52) (w : World) (hC : Kd.C k52 w A l.length l) (hg : ∀ r, r ∈ l → SerR r) (hl : l.length ≤ 100000) :
    Calls Try.prog 32 #[.slice A l.length c, .func (.func 29) #[] #[]] w fun e w' => e = .returned (.int .i64 (-1)) ∧ Below w.heap.size w w' := by
  have hu52 := Try.underlying52
  have HC := Aside0.mk hC
  have HG := Aside0.mk hg
  clear hC hg
  go_enter Try.func32, Try.ntmps32
  go_wp2
  go_loopw [8] (fun v8 wr => ∃ a : Nat, a ≤ l.length ∧ v8 = .int .i64 (a : Int) ∧ Aside0 (Below w.heap.size w wr)) (fun v8 _ => l.length - (intOf v8).toNat)
  case atStart => exact ⟨0, Nat.zero_le _, rfl, ⟨Below.refl _ _⟩⟩
  case round =>
    obtain ⟨a, ha, rfl, HB⟩ := hrel
    obtain ⟨wo, hwo⟩ : ∃ wo : World, wo = wr := ⟨_, rfl⟩
    subst hwo
    by_cases c0 : a < l.length
    · have c0b : decide (a < l.length) = true := decide_eq_true c0
      have c0i : decide ((a : Int) < (l.length : Int)) = true := decide_eq_true (by omega)
      obtain ⟨ad, rfl, p0, p1⟩ := at_T52 (Kd.C_below HC.out HB.out) (a : Int) (by omega) (by omega)
      rw [Int.toNat_natCast] at p0 p1
      obtain ⟨z, hz⟩ : ∃ z, rd_T52 l (a : Int) = z := ⟨_, rfl⟩
      have hzg : SerR z := by
        refine HG.out z ?_
        rw [← hz, rd_T52, Int.toNat_natCast, List.getD_eq_getElem?_getD, List.getElem?_eq_getElem c0]
        exact List.getElem_mem _
      have HF := Aside0.mk (fault1_eq z hzg)
      rw [hz] at p0 p1
      clear hz hzg
      go_wp2_with (fail)
      refine (seg_fault_1.calls z.f0 z.f1 false _ HF.out).mono ?_
      rintro e w5 ⟨rfl, hb5⟩
      have HB5 := Aside0.mk (below_step HB.out hb5)
      clear hb5
      dsimp only
      go_wp2
      exact ⟨⟨a + 1, by omega, by go_num, ⟨HB5.out⟩⟩, by simp [intOf]; omega⟩
    · have c0b : decide (a < l.length) = false := decide_eq_false c0
      have c0i : decide ((a : Int) < (l.length : Int)) = false := decide_eq_false (by omega)
      go_wp2
      go_ret
      exact ⟨rfl, HB.out⟩
set_option maxHeartbeats 4000000 in
set_option maxRecDepth 100000 in
theorem seg_contains_calls (A : Option Addr) (c : Nat) (l : List S52) (w : World) (hC : Kd.C k52 w A l.length l) (hg : ∀ r, r ∈ l → SerR r) (hl : l.length ≤ 100000) :
    Calls Try.prog 31 #[.slice A l.length c, .func (.func 29) #[] #[]] w fun e w' => e = .returned (.bool false) ∧ Below w.heap.size w w' := by
  have HI := Aside0.mk (seg_index_calls A c l w hC hg hl)
  clear hC hg
  go_enter Try.func31, Try.ntmps31
  go_wp2_with (first
    | ((with_reducible refine gate_callee (f := 32) rfl ?_); refine goesL_ _ rfl rfl Try.func32 (by kernel_rfl) rfl #[.slice A l.length c, .func (.func 29) #[] #[]] rfl (by (try simp only [List.map_toArray, List.map_cons, List.map_nil]); first | done | rfl) ?_; refine HI.out.mono ?_; rintro e w5 ⟨rfl, hb5⟩; refine ⟨_, rfl, ?_⟩; have HB5 := Aside0.mk hb5; clear hb5))
  go_ret
  exact ⟨rfl, HB5.out⟩
/-- what seg.fault says of serial numbers -/
def faultF (a w : Int) (f : Bool) (n d : Nat) : Int := if 3 < n ∨ 64 < d then 1 else if f = false ∧ (a ≠ 0 ∨ w ≠ 0 ∨ 0 < n) then 4 else 0
set_option maxHeartbeats 4000000 in
set_option maxRecDepth 100000 in
theorem seg_fault_calls (s a wn : Int) (b3 b4 b5 b6 : Bool) (A7 : Option Addr) (c7 : Nat) (l7 : List S52) (A8 : Option Addr) (c8 n8 : Nat) (w : World) (hr7 : Kd.C k52 w A7 l7.length l7) (hs : 0 ≤ s ∧ s < 65536) (ha : 0 ≤ a ∧ a < 65536) (hw : 0 ≤ wn ∧ wn ≤ 65535) (hg : ∀ r, r ∈ l7 → SerR r) (hl : l7.length ≤ 1000) :
    Calls Try.prog 20 #[.agg #[.int .i64 s, .int .i64 a, .int .i64 wn, .bool b3, .bool b4, .bool b5, .bool b6, .slice A7 l7.length c7, .slice A8 n8 c8]] w fun e w' => e = .returned (.int .i64 (faultF a wn b6 l7.length n8)) ∧ Below w.heap.size w w' := by
  have hu26 := Try.underlying26
  have s1 : seg_serial.f s = some true := by unfold seg_serial.f; rw [if_pos (by omega), decide_eq_true hs.2]
  have s2 : seg_serial.f a = some true := by unfold seg_serial.f; rw [if_pos (by omega), decide_eq_true ha.2]
  have w0b : decide (wn < 0) = false := decide_eq_false (by omega)
  have w1b : decide (wn > 65535) = false := decide_eq_false (by omega)
  have S1 := Aside0.mk s1
  have S2 := Aside0.mk s2
  have HR7 := Aside0.mk hr7
  have HG := Aside0.mk hg
  clear s1 s2 hr7 hg hs ha hw
  go_enter Try.func20, Try.ntmps20
  go_upto_region 4 with (first
    | ((with_reducible refine gate_callee (f := 30) rfl ?_); (try (refine gate_guard (by rfl) ?_; dsimp only)); refine goesL_ _ rfl rfl Try.func30 (by kernel_rfl) rfl #[.int .i64 s] rfl (by (try simp only [List.map_toArray, List.map_cons, List.map_nil]); first | done | rfl) ?_; refine (seg_serial.calls s true _ S1.out).mono ?_; rintro e w5 ⟨rfl, hd⟩; refine ⟨_, rfl, ?_⟩; obtain ⟨⟨n1, rfl⟩⟩ := hd)
    | ((with_reducible refine gate_callee (f := 30) rfl ?_); (try (refine gate_guard (by rfl) ?_; dsimp only)); refine goesL_ _ rfl rfl Try.func30 (by kernel_rfl) rfl #[.int .i64 a] rfl (by (try simp only [List.map_toArray, List.map_cons, List.map_nil]); first | done | rfl) ?_; refine (seg_serial.calls a true _ S2.out).mono ?_; rintro e w5 ⟨rfl, hd⟩; refine ⟨_, rfl, ?_⟩; obtain ⟨⟨n2, rfl⟩⟩ := hd))
  have hbw := pw_below_drewN (below_alloc (Below.refl w.heap.size w) (Obj.cells #[.int .i64 s, .int .i64 a, .int .i64 wn, .bool b3, .bool b4, .bool b5, .bool b6, .slice A7 l7.length c7, .slice A8 n8 c8] 26)) (n1 + n2)
  by_cases c3 : 3 < l7.length
  · have k3 : decide ((l7.length : Int) > 3) = true := decide_eq_true (by omega)
    have e : faultF a wn b6 l7.length n8 = 1 := by unfold faultF; rw [if_pos (.inl c3)]
    have HE := Aside0.mk e
    have HBW := Aside0.mk hbw
    clear e hbw
    go_wp2
    go_ret
    exact ⟨by rw [HE.out]; rfl, HBW.out⟩
  · have k3 : decide ((l7.length : Int) > 3) = false := decide_eq_false (by omega)
    by_cases c4 : 64 < n8
    · have k4 : decide ((n8 : Int) > 64) = true := decide_eq_true (by omega)
      have e : faultF a wn b6 l7.length n8 = 1 := by unfold faultF; rw [if_pos (.inr c4)]
      have HE := Aside0.mk e
      have HBW := Aside0.mk hbw
      clear e hbw
      go_wp2
      go_ret
      exact ⟨by rw [HE.out]; rfl, HBW.out⟩
    · have k4 : decide ((n8 : Int) > 64) = false := decide_eq_false (by omega)
      have HBW := Aside0.mk hbw
      clear hbw
      have HCN : Aside0 (Calls Try.prog 31 #[.slice A7 l7.length c7, .func (.func 29) #[] #[]] ((w.alloc (Obj.cells #[.int .i64 s, .int .i64 a, .int .i64 wn, .bool b3, .bool b4, .bool b5, .bool b6, .slice A7 l7.length c7, .slice A8 n8 c8] 26)).drewN (n1 + n2)) fun e w' => e = .returned (.bool false) ∧ Below ((w.alloc (Obj.cells #[.int .i64 s, .int .i64 a, .int .i64 wn, .bool b3, .bool b4, .bool b5, .bool b6, .slice A7 l7.length c7, .slice A8 n8 c8] 26)).drewN (n1 + n2)).heap.size ((w.alloc (Obj.cells #[.int .i64 s, .int .i64 a, .int .i64 wn, .bool b3, .bool b4, .bool b5, .bool b6, .slice A7 l7.length c7, .slice A8 n8 c8] 26)).drewN (n1 + n2)) w') := ⟨seg_contains_calls A7 c7 l7 _ (Kd.C_below HR7.out (pw_below_drewN (below_alloc (Below.refl _ _) _) _)) HG.out (by omega)⟩
      go_upto_region 8 with (first
        | ((with_reducible refine gate_callee (f := 31) rfl ?_); refine goesL_ _ rfl rfl Try.func31 (by kernel_rfl) rfl #[.slice A7 l7.length c7, .func (.func 29) #[] #[]] rfl (by (try simp only [List.map_toArray, List.map_cons, List.map_nil]); first | done | rfl) ?_; refine HCN.out.mono ?_; rintro e w6 ⟨rfl, hb6⟩; refine ⟨_, rfl, ?_⟩; have HB6 := Aside0.mk hb6; clear hb6))
      have hblk : w6.heap[w.heap.size]? = some (Obj.cells #[.int .i64 s, .int .i64 a, .int .i64 wn, .bool b3, .bool b4, .bool b5, .bool b6, .slice A7 l7.length c7, .slice A8 n8 c8] 26 (0, 0)) := blk_below (blk_drewN (blk_new w _) _) HB6.out
      have f1 : w6.cell? ⟨w.heap.size, 1, none⟩ = some (.int .i64 a) := by rw [blk_cell hblk]; rfl
      have f2 : w6.cell? ⟨w.heap.size, 2, none⟩ = some (.int .i64 wn) := by rw [blk_cell hblk]; rfl
      have f6 : w6.cell? ⟨w.heap.size, 6, none⟩ = some (.bool b6) := by rw [blk_cell hblk]; rfl
      have f7 : w6.cell? ⟨w.heap.size, 7, none⟩ = some (.slice A7 l7.length c7) := by rw [blk_cell hblk]; rfl
      have HBE := Aside0.mk (below_step HBW.out HB6.out)
      have e : faultF a wn b6 l7.length n8 = if b6 = false ∧ (a ≠ 0 ∨ wn ≠ 0 ∨ 0 < l7.length) then 4 else 0 := by unfold faultF; rw [if_neg (by omega)]
      have E := Aside0.mk e
      clear hblk HBW HB6 HCN e k3 k4 w0b w1b
      rcases b6 with _ | _
      · by_cases ca : a = 0
        · have ka : (a != 0) = false := by rw [ca]; rfl
          have HCA := Aside0.mk ca
          clear ca
          by_cases cw : wn = 0
          · have kw : (wn != 0) = false := by rw [cw]; rfl
            have HCW := Aside0.mk cw
            clear cw
            by_cases cn : 0 < l7.length
            · have kn : decide ((l7.length : Int) > 0) = true := decide_eq_true (by omega)
              have HE := Aside0.mk (E.out.trans (if_pos ⟨rfl, .inr (.inr cn)⟩))
              go_wp2
              go_ret
              exact ⟨by rw [HE.out]; rfl, HBE.out⟩
            · have kn : decide ((l7.length : Int) > 0) = false := decide_eq_false (by omega)
              have HE := Aside0.mk (E.out.trans (if_neg (fun h => h.2.elim (fun g => g HCA.out) (fun g => g.elim (fun g => g HCW.out) cn))))
              go_wp2
              go_ret
              exact ⟨by rw [HE.out]; rfl, HBE.out⟩
          · have kw : (wn != 0) = true := bne_iff_ne.mpr cw
            have HE := Aside0.mk (E.out.trans (if_pos ⟨rfl, .inr (.inl cw)⟩))
            go_wp2
            go_ret
            exact ⟨by rw [HE.out]; rfl, HBE.out⟩
        · have ka : (a != 0) = true := bne_iff_ne.mpr ca
          have HE := Aside0.mk (E.out.trans (if_pos ⟨rfl, .inl ca⟩))
          go_wp2
          go_ret
          exact ⟨by rw [HE.out]; rfl, HBE.out⟩
      · have HE := Aside0.mk (E.out.trans (if_neg (fun h => by cases h.1)))
        go_wp2
        go_ret
        exact ⟨by rw [HE.out]; rfl, HBE.out⟩
set_option maxHeartbeats 4000000 in
set_option maxRecDepth 100000 in
theorem seg_flags_calls (g : Nat) (w : World) :
    Calls Try.prog 22 #[.pointer (some ⟨g, 0, none⟩)] w fun e w' => e = .returned (.agg #[.pointer (some ⟨g, 3, none⟩), .pointer (some ⟨g, 4, none⟩), .pointer (some ⟨g, 5, none⟩), .pointer (some ⟨g, 6, none⟩)]) ∧ Below w.heap.size w w' := by
  have hu26 := Try.underlying26
  have hu55 := Try.underlying55
  go_enter Try.func22, Try.ntmps22
  go_upto_region 1 with (fail)
  go_region_law (fail)
  all_goals
    go_wp2
    refine bodyPost_ret (results_cell_row rfl _ _ w.heap.size 55 _ (0, 0) _ rfl (blk_drew (blk_new w _)) Try.underlying55 rfl (by kernel_rfl)) rfl ⟨rfl, below_drew (below_alloc (Below.refl _ _) _)⟩
theorem info54s : (Try.prog.info? 54).map (fun i => (i.size, i.bytes)) = some (1, 8) := by kernel_rfl
theorem idx55_0 (w : World) (p0 p1 p2 p3 : Option Addr) : Sem.run Try.prog (Instr.index 55 (.agg #[.pointer p0, .pointer p1, .pointer p2, .pointer p3]) (.int .i64 0)) w = .ok (.pointer p0) w := by
  have hu := Try.underlying55
  have hu54 := Try.underlying54
  obtain ⟨i0, hi, hsz⟩ := Option.map_eq_some_iff.1 info54s
  simp only [Prod.mk.injEq] at hsz
  simp [Instr.index, hu, hu54, go_sem, sizeOf, typeInfo, hi, hsz.1, part, isAgg, run_underlying]
theorem idx55_1 (w : World) (p0 p1 p2 p3 : Option Addr) : Sem.run Try.prog (Instr.index 55 (.agg #[.pointer p0, .pointer p1, .pointer p2, .pointer p3]) (.int .i64 1)) w = .ok (.pointer p1) w := by
  have hu := Try.underlying55
  have hu54 := Try.underlying54
  obtain ⟨i0, hi, hsz⟩ := Option.map_eq_some_iff.1 info54s
  simp only [Prod.mk.injEq] at hsz
  simp [Instr.index, hu, hu54, go_sem, sizeOf, typeInfo, hi, hsz.1, part, isAgg, run_underlying]
theorem idx55_2 (w : World) (p0 p1 p2 p3 : Option Addr) : Sem.run Try.prog (Instr.index 55 (.agg #[.pointer p0, .pointer p1, .pointer p2, .pointer p3]) (.int .i64 2)) w = .ok (.pointer p2) w := by
  have hu := Try.underlying55
  have hu54 := Try.underlying54
  obtain ⟨i0, hi, hsz⟩ := Option.map_eq_some_iff.1 info54s
  simp only [Prod.mk.injEq] at hsz
  simp [Instr.index, hu, hu54, go_sem, sizeOf, typeInfo, hi, hsz.1, part, isAgg, run_underlying]
theorem idx55_3 (w : World) (p0 p1 p2 p3 : Option Addr) : Sem.run Try.prog (Instr.index 55 (.agg #[.pointer p0, .pointer p1, .pointer p2, .pointer p3]) (.int .i64 3)) w = .ok (.pointer p3) w := by
  have hu := Try.underlying55
  have hu54 := Try.underlying54
  obtain ⟨i0, hi, hsz⟩ := Option.map_eq_some_iff.1 info54s
  simp only [Prod.mk.injEq] at hsz
  simp [Instr.index, hu, hu54, go_sem, sizeOf, typeInfo, hi, hsz.1, part, isAgg, run_underlying]
attribute [local go_sem] idx55_0 idx55_1 idx55_2 idx55_3
theorem lit2 {W : World} {g : Nat} {x y : Int} (h : W.heap[g]? = some (.cells #[.int .u8 x, .int .u8 y] 5 (0, 0))) : Kd.C (Kd.int .u8) W (some ⟨g, 0, none⟩) 2 [x, y] := by
  have hown : W.ownsRow 0 5 1 (.slice (some ⟨g, 0, none⟩) 2 2) 2 [.int .u8 x, .int .u8 y] := ⟨rfl, .inr ⟨g, 2, _, rfl, Nat.zero_le _, h, Nat.le_refl _, by decide, rfl, rfl⟩⟩
  have hR : (Kd.int .u8).R 5 W 0 (fun _ => True) (.slice (some ⟨g, 0, none⟩) 2 2) [x, y] := Kd.R_of_own hown (fun _ _ => trivial)
  exact (Kd.R_reads' hR).2.2
attribute [local go_sem] pn_setCell_drewN
/-- the flags' byte, bit by bit -/
def flgF (b3 b4 b5 b6 : Bool) : Nat → Int
  | 0 => 0
  | a + 1 => if (if a = 0 then b3 else if a = 1 then b4 else if a = 2 then b5 else b6) = true then Go.bits .or .u8 (flgF b3 b4 b5 b6 a) (2 ^ a) else flgF b3 b4 b5 b6 a
def tw (n : Int) : List Int := [(n / 256) % 256, n % 256]
def encS (l : List S52) : List Int := l.flatMap fun r => tw r.f0 ++ tw r.f1
def encL (s a wn : Int) (b3 b4 b5 b6 : Bool) (l7 : List S52) (l8 : List Int) : List Int := ((((([] ++ tw s) ++ tw a) ++ tw wn) ++ [flgF b3 b4 b5 b6 4, (l7.length : Int)]) ++ tw 0) ++ encS l7 ++ l8
theorem encS_snoc (l : List S52) (r : S52) : encS (l ++ [r]) = encS l ++ tw r.f0 ++ tw r.f1 := by simp [encS]
theorem encS_len : ∀ (l : List S52), (encS l).length = 4 * l.length
  | [] => rfl
  | r :: l => by
    have e : encS (r :: l) = (tw r.f0 ++ tw r.f1) ++ encS l := by simp [encS]
    rw [e, List.length_append, encS_len l, List.length_cons]
    show 4 + 4 * l.length = _
    omega
theorem two_eq (l : List Int) (n : Int) (h : l.length ≤ 1000) : seg_two.f l n = some (l ++ tw n) := by
  unfold seg_two.f
  rw [Option.bind_some, if_pos (by simp; omega)]
  rfl
set_option maxHeartbeats 8000000 in
set_option maxRecDepth 100000 in
theorem seg_encode_calls (k : Nat) (s a wn : Int) (b3 b4 b5 b6 : Bool) (A7 : Option Addr) (c7 : Nat) (l7 : List S52) (A8 : Option Addr) (c8 : Nat) (l8 : List Int) (sm : Int) (w : World) (hr7 : Kd.C k52 w A7 l7.length l7) (hc7 : l7.length ≤ c7) (hr8 : Kd.C (Kd.int .u8) w A8 l8.length l8) (hc8 : l8.length ≤ c8) (hs : 0 ≤ s ∧ s < 65536) (ha : 0 ≤ a ∧ a < 65536) (hw : 0 ≤ wn ∧ wn ≤ 65535) (hg : ∀ r, r ∈ l7 → SerR r) (hl : l7.length ≤ 3) (hl8 : l8.length ≤ 64) (hf : faultF a wn b6 l7.length l8.length = 0) (hsm : inet_Sum.f k (encL s a wn b3 b4 b5 b6 l7 l8) = some sm) :
    Calls Try.prog 9 #[.agg #[.int .i64 s, .int .i64 a, .int .i64 wn, .bool b3, .bool b4, .bool b5, .bool b6, .slice A7 l7.length c7, .slice A8 l8.length c8]] w fun e w' => ∃ v : Value, e = .returned (.tuple #[v, .int .i64 0]) ∧ Kd.R (Kd.int .u8) 5 w' w.heap.size (fun _ => True) v (((encL s a wn b3 b4 b5 b6 l7 l8).set 8 (sm / 256 % 256)).set 9 (sm % 256)) ∧ Below w.heap.size w w' := by
  have hu26 := Try.underlying26
  have hu52 := Try.underlying52
  have hu55 := Try.underlying55
  have HFC : ∀ W, Kd.C k52 W A7 l7.length l7 → Calls Try.prog 20 #[.agg #[.int .i64 s, .int .i64 a, .int .i64 wn, .bool b3, .bool b4, .bool b5, .bool b6, .slice A7 l7.length c7, .slice A8 l8.length c8]] W fun e w' => e = .returned (.int .i64 0) ∧ Below W.heap.size W w' := fun W hC => by have := seg_fault_calls s a wn b3 b4 b5 b6 A7 c7 l7 A8 c8 l8.length W hC hs ha hw hg (by omega); rwa [hf] at this
  have HF := Aside0.mk HFC
  have HR7 := Aside0.mk hr7
  have HR8 := Aside0.mk hr8
  have HSM := Aside0.mk hsm
  have HL7 := Aside0.mk hl
  have HL8 := Aside0.mk hl8
  clear HFC hr7 hr8 hsm hg hf hs ha hw
  go_enter Try.func9, Try.ntmps9
  go_upto_region 4 with (first
    | ((with_reducible refine gate_callee (f := 20) rfl ?_); refine goesL_ _ rfl rfl Try.func20 (by kernel_rfl) rfl #[.agg #[.int .i64 s, .int .i64 a, .int .i64 wn, .bool b3, .bool b4, .bool b5, .bool b6, .slice A7 l7.length c7, .slice A8 l8.length c8]] rfl (by (try simp only [List.map_toArray, List.map_cons, List.map_nil]); first | done | rfl) ?_; refine (HF.out _ (Kd.C_below HR7.out (below_alloc (Below.refl _ _) _))).mono ?_; rintro e w5 ⟨rfl, hb5⟩; refine ⟨_, rfl, ?_⟩; have HB5 := Aside0.mk hb5; clear hb5))
  have hblk : w5.heap[w.heap.size]? = some (Obj.cells #[.int .i64 s, .int .i64 a, .int .i64 wn, .bool b3, .bool b4, .bool b5, .bool b6, .slice A7 l7.length c7, .slice A8 l8.length c8] 26 (0, 0)) := blk_below (blk_new w _) HB5.out
  have HBLK := Aside0.mk hblk
  have f0 : w5.cell? ⟨w.heap.size, 0, none⟩ = some (.int .i64 s) := by rw [blk_cell hblk]; rfl
  have f1 : w5.cell? ⟨w.heap.size, 1, none⟩ = some (.int .i64 a) := by rw [blk_cell hblk]; rfl
  have f2 : w5.cell? ⟨w.heap.size, 2, none⟩ = some (.int .i64 wn) := by rw [blk_cell hblk]; rfl
  have f0' := pw_cell_below (below_drew (Below.refl _ w5)) f0
  have f1' := pw_cell_below (below_drew (Below.refl _ w5)) f1
  have f2' := pw_cell_below (below_drew (Below.refl _ w5)) f2
  have HB1 := Aside0.mk (below_step (below_alloc (Below.refl _ w) (Obj.cells #[.int .i64 s, .int .i64 a, .int .i64 wn, .bool b3, .bool b4, .bool b5, .bool b6, .slice A7 l7.length c7, .slice A8 l8.length c8] 26)) HB5.out)
  clear hblk
  go_cut [5] (fun v5 wc => Aside0 (Kd.R (Kd.int .u8) 5 wc w5.heap.size (fun _ => True) v5 (([] ++ tw s ++ tw a) ++ tw wn)) ∧ Aside0 (Below w5.heap.size w5 wc))
  case first =>
    go_region_law (first
      | (refine goes_ Try.func21 (by kernel_rfl) rfl #[.slice none 0 0, .int .i64 s] rfl rfl rfl (by (try simp only [List.map_toArray, List.map_cons, List.map_nil]); first | done | rfl) ?_; refine (seg_two.calls (fun _ => True) (.slice none 0 0) [] s ([] ++ tw s) w5.drew w5.drew (Below.refl _ _) (Kd.R_nil _ _ _ _ _) (two_eq [] s (by simp))).mono ?_; rintro e w6 ⟨v6, rfl, ho, hb, _⟩; refine ⟨_, rfl, ?_⟩; have HO6 := Aside0.mk (Kd.R_mono ho (ok' := fun _ => True) (fun _ _ => trivial)); have HB6 := Aside0.mk hb; have gx0 := pw_cell_below hb f0'; have gx1 := pw_cell_below hb f1'; have gx2 := pw_cell_below hb f2'; clear ho hb)
      | (refine goes_ Try.func21 (by kernel_rfl) rfl #[v6, .int .i64 a] rfl rfl rfl (by (try simp only [List.map_toArray, List.map_cons, List.map_nil]); first | done | rfl) ?_; refine (seg_two.calls (fun _ => True) v6 ([] ++ tw s) a (([] ++ tw s) ++ tw a) w5.drew w6 HB6.out HO6.out (two_eq _ a (by simp [tw]))).mono ?_; rintro e w7 ⟨v7, rfl, ho, hb, _⟩; refine ⟨_, rfl, ?_⟩; have HO7 := Aside0.mk (Kd.R_mono ho (ok' := fun _ => True) (fun _ _ => trivial)); have HB7 := Aside0.mk hb; have gy0 := pw_cell_below hb f0'; have gy1 := pw_cell_below hb f1'; have gy2 := pw_cell_below hb f2'; clear ho hb)
      | (refine goes_ Try.func21 (by kernel_rfl) rfl #[v7, .int .i64 wn] rfl rfl rfl (by (try simp only [List.map_toArray, List.map_cons, List.map_nil]); first | done | rfl) ?_; refine (seg_two.calls (fun _ => True) v7 (([] ++ tw s) ++ tw a) wn ((([] ++ tw s) ++ tw a) ++ tw wn) w5.drew w7 HB7.out HO7.out (two_eq _ wn (by simp [tw]))).mono ?_; rintro e w8 ⟨v8, rfl, ho, hb, _⟩; refine ⟨_, rfl, ?_⟩; have HO8 := Aside0.mk (Kd.R_mono ho (ok' := fun _ => True) (fun _ _ => trivial)); have HB8 := Aside0.mk hb; clear ho hb))
    all_goals
      go_wp2
      go_meet
      case rel => exact ⟨HO8, ⟨(Below.refl _ w5).drew.trans HB8.out⟩⟩
  case rest =>
    obtain ⟨HO, HB⟩ := hcut
    obtain ⟨W2, hW2⟩ : ∃ y : World, y = wc := ⟨_, rfl⟩
    subst hW2
    clear f0 f1 f2 f0' f1' f2'
    have HBLK2 := Aside0.mk (blk_below HBLK.out HB.out)
    go_upto_block 0 with (first
      | ((with_reducible refine gate_callee (f := 22) rfl ?_); refine goesL_ _ rfl rfl Try.func22 (by kernel_rfl) rfl #[.pointer (some ⟨w.heap.size, 0, none⟩)] rfl (by (try simp only [List.map_toArray, List.map_cons, List.map_nil]); first | done | rfl) ?_; refine (seg_flags_calls w.heap.size W2).mono ?_; rintro e w9 ⟨rfl, hb9⟩; refine ⟨_, rfl, ?_⟩; have HB9 := Aside0.mk hb9; clear hb9))
    have HBLK9 := Aside0.mk (blk_below HBLK2.out HB9.out)
    have HO9 := Aside0.mk (Kd.R_below HO.out HB9.out)
    have HBX := Aside0.mk (HB.out.trans (HB9.out.mono HB.out.size))
    go_cut [6] (fun v6 wc => v6 = .int .u8 (flgF b3 b4 b5 b6 4) ∧ Aside0 (Below w9.heap.size w9 wc))
    case first =>
      go_wp2
      go_loopw [6, 27] (fun v6 v27 wr => ∃ j : Nat, j ≤ 4 ∧ v27 = .int .i64 (j : Int) ∧ v6 = .int .u8 (flgF b3 b4 b5 b6 j) ∧ Aside0 (Below w9.heap.size w9 wr)) (fun _ v27 _ => 4 - (intOf v27).toNat)
      case atStart => exact ⟨0, by omega, rfl, rfl, ⟨Below.refl _ _⟩⟩
      case round =>
        obtain ⟨j, hj, rfl, rfl, HBR⟩ := hrel
        obtain ⟨wo, hwo⟩ : ∃ wo : World, wo = wr := ⟨_, rfl⟩
        subst hwo
        have hblk := blk_below HBLK9.out HBR.out
        have p3 : wo.cell? ⟨w.heap.size, 3, none⟩ = some (.bool b3) := by rw [blk_cell hblk]; rfl
        have p4 : wo.cell? ⟨w.heap.size, 4, none⟩ = some (.bool b4) := by rw [blk_cell hblk]; rfl
        have p5 : wo.cell? ⟨w.heap.size, 5, none⟩ = some (.bool b5) := by rw [blk_cell hblk]; rfl
        have p6 : wo.cell? ⟨w.heap.size, 6, none⟩ = some (.bool b6) := by rw [blk_cell hblk]; rfl
        clear hblk
        have q0 := blk_lt HBLK9.out
        obtain ⟨x, hx⟩ : ∃ x, flgF b3 b4 b5 b6 j = x := ⟨_, rfl⟩
        have HX := Aside0.mk (show flgF b3 b4 b5 b6 (j + 1) = if (if j = 0 then b3 else if j = 1 then b4 else if j = 2 then b5 else b6) = true then Go.bits .or .u8 x (2 ^ j) else x by rw [flgF, hx])
        rw [hx]
        have HXX := Aside0.mk hx
        clear hx
        have h5 : j = 0 ∨ j = 1 ∨ j = 2 ∨ j = 3 ∨ j = 4 := by omega
        rcases h5 with rfl | rfl | rfl | rfl | rfl
        · rcases b3 with _ | _
          · go_wp2
            exact ⟨⟨1, by omega, rfl, by rw [show flgF _ _ _ _ 1 = _ from HX.out]; rfl, HBR⟩, by simp [intOf]⟩
          · go_wp2
            exact ⟨⟨1, by omega, rfl, by rw [show flgF _ _ _ _ 1 = _ from HX.out]; rfl, HBR⟩, by simp [intOf]⟩
        · rcases b4 with _ | _
          · go_wp2
            exact ⟨⟨2, by omega, rfl, by rw [show flgF _ _ _ _ 2 = _ from HX.out]; rfl, HBR⟩, by simp [intOf]⟩
          · go_wp2
            exact ⟨⟨2, by omega, rfl, by rw [show flgF _ _ _ _ 2 = _ from HX.out]; rfl, HBR⟩, by simp [intOf]⟩
        · rcases b5 with _ | _
          · go_wp2
            exact ⟨⟨3, by omega, rfl, by rw [show flgF _ _ _ _ 3 = _ from HX.out]; rfl, HBR⟩, by simp [intOf]⟩
          · go_wp2
            exact ⟨⟨3, by omega, rfl, by rw [show flgF _ _ _ _ 3 = _ from HX.out]; rfl, HBR⟩, by simp [intOf]⟩
        · rcases b6 with _ | _
          · go_wp2
            exact ⟨⟨4, by omega, rfl, by rw [show flgF _ _ _ _ 4 = _ from HX.out]; rfl, HBR⟩, by simp [intOf]⟩
          · go_wp2
            exact ⟨⟨4, by omega, rfl, by rw [show flgF _ _ _ _ 4 = _ from HX.out]; rfl, HBR⟩, by simp [intOf]⟩
        · go_wp2
          go_meet
          case rel => exact ⟨by rw [HXX.out], HBR⟩
    case rest =>
      obtain ⟨rfl, HB10⟩ := hcut
      obtain ⟨W3, hW3⟩ : ∃ y : World, y = wc := ⟨_, rfl⟩
      subst hW3
      have HBLK3 := Aside0.mk (blk_below HBLK9.out HB10.out)
      have HO3 := Aside0.mk (Kd.R_below HO9.out HB10.out)
      have HBY := Aside0.mk (HBX.out.trans (HB10.out.mono HBX.out.size))
      have hblk := HBLK3.out
      have f7 : W3.cell? ⟨w.heap.size, 7, none⟩ = some (.slice A7 l7.length c7) := by rw [blk_cell hblk]; rfl
      have q1 := blk_lt hblk
      clear hblk
      obtain ⟨fl, hfl⟩ : ∃ fl, flgF b3 b4 b5 b6 4 = fl := ⟨_, rfl⟩
      have HFL := Aside0.mk hfl
      rw [hfl]
      clear hfl
      obtain ⟨hd, hhd⟩ : ∃ hd, (([] ++ tw s ++ tw a) ++ tw wn) = hd := ⟨_, rfl⟩
      have HHD := Aside0.mk hhd
      have hhl : hd.length = 6 := by rw [← hhd]; rfl
      have HHL := Aside0.mk hhl
      rw [hhd] at HO3
      clear hhd hhl
      have HO4 := Aside0.mk (Kd.R_below HO3.out (below_alloc (Below.refl _ _) (Obj.cells #[.int .u8 fl, .int .u8 (l7.length : Int)] 5)))
      have HSZ := Aside0.mk HBY.out.size
      go_upto_block 2 with (first
        | ((with_reducible refine gate_builtin (b := .append) (xs := #[.tmp 39, .tmp 45]) rfl ?_); at_builtin; refine Kd.R_append_rows (Kd.int .u8) (Rr := (Kd.int .u8).K (W3.alloc (Obj.cells #[.int .u8 fl, .int .u8 (l7.length : Int)] 5))) (w0 := W3.alloc (Obj.cells #[.int .u8 fl, .int .u8 (l7.length : Int)] 5)) (W := W3.alloc (Obj.cells #[.int .u8 fl, .int .u8 (l7.length : Int)] 5)) w5.heap.size rfl (.tmp 39) (.tmp 45) 23 5 (.int .u8 0) 1 rfl Try.underlying23 info5 rfl (by decide) (by decide) _ hd [fl, (l7.length : Int)] (some ⟨W3.heap.size, 0, none⟩) 2 2 (fun _ => True) (fun _ => False) rfl rfl HO4.out (lit2 (blk_new _ _)) (fun _ _ h => h) (fun _ h => h.elim) (fun _ _ => trivial) (Below.refl _ _) ?aS ?aL ?_; (case aS => have := HSZ.out; rw [World.size_alloc]; omega); (case aL => have := HHL.out; omega); intro v12 w12 ho hb hg hat; have HO12 := Aside0.mk ho; have HB12 := Aside0.mk hb; clear ho hb hg hat)
        | ((with_reducible refine gate_callee (f := 21) rfl ?_); refine goesL_ _ rfl rfl Try.func21 (by kernel_rfl) rfl #[v12, .int .i64 0] rfl (by (try simp only [List.map_toArray, List.map_cons, List.map_nil]); first | done | rfl) ?_; refine (seg_two.calls (fun _ => True) v12 (hd ++ [fl, (l7.length : Int)]) 0 ((hd ++ [fl, (l7.length : Int)]) ++ tw 0) w5 w12 ?sB HO12.out (two_eq _ 0 (by have := HHL.out; simp; omega))).mono ?_; (case sB => exact HBY.out.trans (((Below.refl _ W3).alloc HSZ.out _).trans HB12.out)); rintro e w13 ⟨v13, rfl, ho, hb, _⟩; refine ⟨_, rfl, ?_⟩; have HO13 := Aside0.mk (Kd.R_mono ho (ok' := fun _ => True) (fun _ _ => trivial)); have HB13 := Aside0.mk hb; have f7' := (hb.cell (p := ⟨w.heap.size, 7, none⟩) (blk_lt HBLK.out)).trans ((blk_cell HBLK.out 7).trans rfl); clear ho hb))
      obtain ⟨h2, hh2⟩ : ∃ h2, (hd ++ [fl, (l7.length : Int)]) ++ tw 0 = h2 := ⟨_, rfl⟩
      have HH2 := Aside0.mk hh2
      have h2l : h2.length = 10 := by rw [← hh2]; have := HHL.out; simp [tw]; omega
      have H2L := Aside0.mk h2l
      rw [hh2] at HO13
      clear hh2 h2l f7 q1 HO12 HB12 HO4
      go_cut [5] (fun v5 wc => Aside0 (Kd.R (Kd.int .u8) 5 wc w5.heap.size (fun _ => True) v5 (h2 ++ encS l7)) ∧ Aside0 (Below w5.heap.size w5 wc))
      case first =>
        go_wp2
        go_loopw [5, 51] (fun v5 v51 wr => ∃ j : Nat, j ≤ l7.length ∧ v51 = .int .i64 (j : Int) ∧ Aside0 (Kd.R (Kd.int .u8) 5 wr w5.heap.size (fun _ => True) v5 (h2 ++ encS (l7.take j))) ∧ Aside0 (Below w5.heap.size w5 wr)) (fun _ v51 _ => l7.length - (intOf v51).toNat)
        case atStart => exact ⟨0, Nat.zero_le _, rfl, ⟨by rw [List.take_zero, show encS [] = [] from rfl, List.append_nil]; exact HO13.out⟩, HB13⟩
        case round =>
          obtain ⟨j, hj, rfl, HR, HBR⟩ := hrel
          obtain ⟨wo, hwo⟩ : ∃ wo : World, wo = wr := ⟨_, rfl⟩
          subst hwo
          by_cases k0 : j < l7.length
          · have k0i : decide ((j : Int) < (l7.length : Int)) = true := decide_eq_true (by omega)
            have k0n : decide (j < l7.length) = true := decide_eq_true k0
            obtain ⟨ad, rfl, p0, p1⟩ := at_T52 (Kd.C_below HR7.out (below_step HB1.out (HBR.out.mono (Nat.le_refl _)))) (j : Int) (by omega) (by omega)
            rw [Int.toNat_natCast] at p0 p1
            obtain ⟨z, hz⟩ : ∃ z, rd_T52 l7 (j : Int) = z := ⟨_, rfl⟩
            rw [hz] at p0 p1
            obtain ⟨L, hL⟩ : ∃ L, h2 ++ encS (l7.take j) = L := ⟨_, rfl⟩
            have hLl : L.length ≤ 100 := by rw [← hL, List.length_append, encS_len, List.length_take]; have := H2L.out; omega
            have HLN := Aside0.mk (show (L ++ tw z.f0) ++ tw z.f1 = h2 ++ encS (l7.take (j + 1)) by rw [← hL, ← hz, rd_T52, Int.toNat_natCast, List.take_add, List.drop_eq_getElem_cons k0, List.getD_eq_getElem?_getD, List.getElem?_eq_getElem k0]; show _ = h2 ++ encS (l7.take j ++ [l7[j]]); rw [encS_snoc]; simp)
            have HLL := Aside0.mk hLl
            rw [hL] at HR
            obtain ⟨A5, c5, hv5⟩ := Kd.R_slice HR.out
            subst hv5
            have HRB := Aside0.mk (Kd.R_mono (Kd.R_bound HR.out) (ok' := fun k => k < wo.heap.size) (fun k hk => hk.2.2.1))
            clear hL hz hLl
            go_upto_region 16 with (fail)
            have HRW := Aside0.mk (Kd.R_below (Kd.R_below HRB.out (below_alloc (Below.refl _ _) (Obj.cells #[.int .i64 z.f0, .int .i64 z.f1] 52))) (below_drew (Below.refl _ _)))
            have HBW := Aside0.mk ((HBR.out.alloc HBR.out.size (Obj.cells #[.int .i64 z.f0, .int .i64 z.f1] 52)).drew)
            have hbz := blk_drew (blk_new wo (Obj.cells #[.int .i64 z.f0, .int .i64 z.f1] 52))
            have HBZ := Aside0.mk hbz
            have r0 : (wo.alloc (Obj.cells #[.int .i64 z.f0, .int .i64 z.f1] 52)).drew.cell? ⟨wo.heap.size, 0, none⟩ = some (.int .i64 z.f0) := by rw [blk_cell hbz]; rfl
            have r1 : (wo.alloc (Obj.cells #[.int .i64 z.f0, .int .i64 z.f1] 52)).drew.cell? ⟨wo.heap.size, 1, none⟩ = some (.int .i64 z.f1) := by rw [blk_cell hbz]; rfl
            clear hbz
            go_region_law (first
              | (refine goes_ Try.func21 (by kernel_rfl) rfl #[.slice A5 L.length c5, .int .i64 z.f0] rfl rfl rfl (by (try simp only [List.map_toArray, List.map_cons, List.map_nil]); first | done | rfl) ?_; refine (seg_two.calls (fun k => k < wo.heap.size) (.slice A5 L.length c5) L z.f0 (L ++ tw z.f0) w5 (wo.alloc (Obj.cells #[.int .i64 z.f0, .int .i64 z.f1] 52)).drew HBW.out HRW.out (two_eq L _ (by have := HLL.out; omega))).mono ?_; rintro e w16 ⟨v16, rfl, ho, hb, hkp⟩; refine ⟨_, rfl, ?_⟩; have HO16 := Aside0.mk (Kd.R_mono ho (ok' := fun _ => True) (fun _ _ => trivial)); have HB16 := Aside0.mk hb; have x1 : w16.cell? ⟨wo.heap.size, 1, none⟩ = some (.int .i64 z.f1) := (blk_cell ((hkp.2 wo.heap.size (blk_lt HBZ.out) (by omega)).trans HBZ.out) 1).trans rfl; clear ho hb hkp)
              | (refine goes_ Try.func21 (by kernel_rfl) rfl #[v16, .int .i64 z.f1] rfl rfl rfl (by (try simp only [List.map_toArray, List.map_cons, List.map_nil]); first | done | rfl) ?_; refine (seg_two.calls (fun _ => True) v16 (L ++ tw z.f0) z.f1 ((L ++ tw z.f0) ++ tw z.f1) w5 w16 HB16.out HO16.out (two_eq _ _ (by have := HLL.out; simp [tw]; omega))).mono ?_; rintro e w17 ⟨v17, rfl, ho, hb, _⟩; refine ⟨_, rfl, ?_⟩; have HO17 := Aside0.mk (Kd.R_mono ho (ok' := fun _ => True) (fun _ _ => trivial)); have HB17 := Aside0.mk hb; clear ho hb))
            all_goals
              go_wp2
              refine ⟨⟨j + 1, by omega, by go_num, ⟨by rw [← HLN.out]; exact HO17.out⟩, HB17⟩, by simp [intOf]; omega⟩
          · obtain rfl : j = l7.length := by omega
            rw [List.take_length] at HR
            have k0i : decide ((l7.length : Int) < (l7.length : Int)) = false := decide_eq_false (by omega)
            go_wp2
            go_meet
            case rel => exact ⟨HR, HBR⟩
      case rest =>
        obtain ⟨HO14, HB14⟩ := hcut
        obtain ⟨W4, hW4⟩ : ∃ y : World, y = wc := ⟨_, rfl⟩
        subst hW4
        obtain ⟨L, hL⟩ : ∃ L, h2 ++ encS l7 = L := ⟨_, rfl⟩
        have hLl : L.length = 10 + 4 * l7.length := by rw [← hL, List.length_append, encS_len]; have := H2L.out; omega
        have HLL := Aside0.mk hLl
        have HEQ := Aside0.mk (show encL s a wn b3 b4 b5 b6 l7 l8 = L ++ l8 by rw [← hL, ← HH2.out, ← HHD.out, ← HFL.out]; rfl)
        rw [hL] at HO14
        clear hL hLl
        have f8 : W4.cell? ⟨w.heap.size, 8, none⟩ = some (.slice A8 l8.length c8) := (HB14.out.cell (p := ⟨w.heap.size, 8, none⟩) (blk_lt HBLK.out)).trans ((blk_cell HBLK.out 8).trans rfl)
        go_upto_region 19 with (first
          | ((with_reducible refine gate_builtin (b := .append) (xs := #[.tmp 63, .tmp 65]) rfl ?_); at_builtin; refine Kd.R_append_rows (Kd.int .u8) (Rr := (Kd.int .u8).K W4) (w0 := W4) (W := W4) w5.heap.size rfl (.tmp 63) (.tmp 65) 23 5 (.int .u8 0) 1 rfl Try.underlying23 info5 rfl (by decide) (by decide) _ L l8 A8 l8.length c8 (fun _ => True) (fun _ => False) rfl rfl HO14.out (Kd.C_below HR8.out (below_step HB1.out HB14.out)) (fun _ _ h => h) (fun _ h => h.elim) (fun _ _ => trivial) (Below.refl _ _) HB14.out.size ?aL ?_; (case aL => have := HLL.out; have := HL8.out; have := HL7.out; omega); intro v18 w18 ho hb hg hat; have HO18 := Aside0.mk ho; have HB18 := Aside0.mk (HB14.out.trans hb); clear ho hb hg hat))
        clear f8
        obtain ⟨B, hB⟩ : ∃ B, L ++ l8 = B := ⟨_, rfl⟩
        have hBl : 10 ≤ B.length := by rw [← hB, List.length_append]; have := HLL.out; omega
        have hBl2 : B.length ≤ 1000 := by rw [← hB, List.length_append]; have := HLL.out; have := HL7.out; have := HL8.out; omega
        have hsm2 := HSM.out
        rw [HEQ.out, hB] at hsm2
        have HS2 := Aside0.mk hsm2
        rw [hB] at HO18 HEQ
        clear hsm2 hB
        obtain ⟨g, c18, hv18, hg0, hgl, _⟩ := Kd.R_form HO18.out (by omega)
        subst hv18
        obtain ⟨x8, y8⟩ := Kd.R_celln 0 HO18.out 8 (by omega) (by omega)
        obtain ⟨x9, y9⟩ := Kd.R_celln 0 HO18.out 9 (by omega) (by omega)
        simp only [Int.reduceToNat] at x8 y8 x9 y9
        go_wp2_with (first
          | ((with_reducible refine gate_callee (f := 23) rfl ?_); refine goesL_ _ rfl rfl Try.func23 (by kernel_rfl) rfl #[.slice (some ⟨g, 0, none⟩) B.length c18] rfl (by (try simp only [List.map_toArray, List.map_cons, List.map_nil]); first | done | rfl) ?_; refine (inet_Sum.calls k (some ⟨g, 0, none⟩) c18 B sm w18 (Kd.R_reads' HO18.out).2.2 (Kd.R_reads' HO18.out).2.1 HS2.out).mono ?_; rintro e w19 ⟨rfl, hd⟩; refine ⟨_, rfl, ?_⟩; obtain ⟨⟨nq, rfl⟩⟩ := hd))
        have h8 := (Kd.R_putg HO18.out 8 (sm / 256 % 256)).1
        have h9 := (Kd.R_putg h8 9 (sm % 256)).1
        have h10 := Kd.R_lower (Kd.R_drewN h9 nq) HB1.out.size
        have hbf := below_step HB1.out (pw_below_drewN ((HB18.out.setCell (p := ⟨g, 8, none⟩) hg0 (.int .u8 (sm / 256 % 256))).setCell (p := ⟨g, 9, none⟩) hg0 (.int .u8 (sm % 256))) nq)
        go_ret2
        exact ⟨_, rfl, by rw [HEQ.out]; exact h10, hbf⟩
def serB (l : List S52) : Bool := l.all fun r => decide (0 ≤ r.f0 ∧ r.f0 < 65536 ∧ 0 ≤ r.f1 ∧ r.f1 < 65536)
theorem serB_R {l : List S52} (h : serB l = true) : ∀ r, r ∈ l → SerR r := by
  intro r hr
  unfold serB at h
  rw [List.all_eq_true] at h
  have h2 : decide (0 ≤ r.f0 ∧ r.f0 < 65536 ∧ 0 ≤ r.f1 ∧ r.f1 < 65536) = true := h r hr
  have h3 := of_decide_eq_true h2
  exact h3
def sealF (e : List Int) (sm : Int) : List Int := (e.set 8 (sm / 256 % 256)).set 9 (sm % 256)
def seg_Encode.f (a0_0 : Int) (a0_1 : Int) (a0_2 : Int) (a0_3 : Bool) (a0_4 : Bool) (a0_5 : Bool) (a0_6 : Bool) (l0_7 : List (S52)) (l0_8 : List Int) : Option (List Int × Int) :=
  if (0 ≤ a0_0 ∧ a0_0 < 65536) ∧ (0 ≤ a0_1 ∧ a0_1 < 65536) ∧ (0 ≤ a0_2 ∧ a0_2 ≤ 65535) ∧ serB l0_7 = true ∧ l0_7.length ≤ 3 ∧ l0_8.length ≤ 64 ∧ faultF a0_1 a0_2 a0_6 l0_7.length l0_8.length = 0 then
    (inet_Sum.f 1000 (encL a0_0 a0_1 a0_2 a0_3 a0_4 a0_5 a0_6 l0_7 l0_8)).bind fun sm => some (sealF (encL a0_0 a0_1 a0_2 a0_3 a0_4 a0_5 a0_6 l0_7 l0_8) sm, 0)
  else none
theorem seg_Encode.calls (a0_0 : Int) (a0_1 : Int) (a0_2 : Int) (a0_3 : Bool) (a0_4 : Bool) (a0_5 : Bool) (a0_6 : Bool) (A0_7 : Option Addr) (c0_7 : Nat) (l0_7 : List (S52)) (A0_8 : Option Addr) (c0_8 : Nat) (l0_8 : List Int) (r1 : List Int) (r2 : Int) (w : World) (hr0_7 : Kd.C k52 w A0_7 l0_7.length l0_7) (hc0_7 : l0_7.length ≤ c0_7) (hr0_8 : Kd.C (Kd.int .u8) w A0_8 l0_8.length l0_8) (hc0_8 : l0_8.length ≤ c0_8) (h : seg_Encode.f a0_0 a0_1 a0_2 a0_3 a0_4 a0_5 a0_6 l0_7 l0_8 = some (r1, r2)) :
    Calls Try.prog 9 #[.agg #[.int .i64 a0_0, .int .i64 a0_1, .int .i64 a0_2, .bool a0_3, .bool a0_4, .bool a0_5, .bool a0_6, .slice A0_7 l0_7.length c0_7, .slice A0_8 l0_8.length c0_8]] w fun e w' => ∃ v0_ : Value, e = .returned (.tuple #[v0_, .int .i64 r2]) ∧ Kd.R (Kd.int .u8) 5 w' w.heap.size (fun _ => True) v0_ r1 ∧ Below w.heap.size w w' := by
  unfold seg_Encode.f at h
  by_cases hc : (0 ≤ a0_0 ∧ a0_0 < 65536) ∧ (0 ≤ a0_1 ∧ a0_1 < 65536) ∧ (0 ≤ a0_2 ∧ a0_2 ≤ 65535) ∧ serB l0_7 = true ∧ l0_7.length ≤ 3 ∧ l0_8.length ≤ 64 ∧ faultF a0_1 a0_2 a0_6 l0_7.length l0_8.length = 0
  · rw [if_pos hc] at h
    rcases hs : inet_Sum.f 1000 (encL a0_0 a0_1 a0_2 a0_3 a0_4 a0_5 a0_6 l0_7 l0_8) with _ | sm
    · rw [hs] at h; cases h
    · rw [hs, Option.bind_some] at h
      injection h with h
      injection h with h1 h2
      subst h1 h2
      exact seg_encode_calls 1000 a0_0 a0_1 a0_2 a0_3 a0_4 a0_5 a0_6 A0_7 c0_7 l0_7 A0_8 c0_8 l0_8 sm w hr0_7 hc0_7 hr0_8 hc0_8 hc.1 hc.2.1 hc.2.2.1 (serB_R hc.2.2.2.1) hc.2.2.2.2.1 hc.2.2.2.2.2.1 hc.2.2.2.2.2.2 hs
  · rw [if_neg hc] at h; cases h

-- NOT PRINTED: function 24 (seg_Decode_1)

/-! ### slices_Clone_byte_byte: function 25 -/
def slices_Clone_byte_byte.f (l0 : List Int) : Option (List Int) := (some (([] : List Int) : List Int)).bind fun y120 => (if y120.length + l0.length < 140737488355328 then (some (y120 ++ l0)) else (none))
set_option maxHeartbeats 8000000 in
set_option maxRecDepth 100000 in
theorem slices_Clone_byte_byte.calls (A0 : Option Addr) (c0 : Nat) (l0 : List Int) (r : List Int) (w : World) (hr0 : Kd.C (Kd.int .u8) w A0 l0.length l0) (hc0 : l0.length ≤ c0) (h : slices_Clone_byte_byte.f l0 = some r) :
    Calls Try.prog 25 #[.slice A0 l0.length c0] w fun e w' => ∃ v0_ : Value, e = .returned (v0_) ∧ Kd.R (Kd.int .u8) 5 w' w.heap.size (fun _ => True) v0_ r ∧ Below w.heap.size w w' := by
  have hA : A0 = none ∨ ∃ ad, A0 = some ad := by cases A0 with
    | none => exact .inl rfl
    | some ad => exact .inr ⟨ad, rfl⟩
  rcases hA with rfl | ⟨ad0, rfl⟩
  · have hl0 : l0 = [] := by
      cases l0 with
      | nil => rfl
      | cons a l => obtain ⟨ad, e, _⟩ := hr0.2.2 (by simp); cases e
    subst hl0
    have hr : r = [] := by simpa [slices_Clone_byte_byte.f] using h.symm
    subst hr
    have hnil := fun (w : World) (n c : Nat) => pn_eql_slice_nil (P := Try.prog) w 23 5 none n c 0 0 Try.underlying23
    go_enter Try.func25, Try.ntmps25
    go_wp2
    go_ret
    exact ⟨_, rfl, Kd.R_nil _ _ _ _ _, Below.refl _ _⟩
  have hnil := fun (w : World) (n c : Nat) => pn_eql_slice_nil (P := Try.prog) w 23 5 (some ad0) n c 0 0 Try.underlying23
  have HR0 := Aside0.mk hr0
  have HC0 := Aside0.mk hc0
  clear hr0 hc0
  have HB := Aside0.mk (Below.refl w.heap.size w)
  have H : ((some (([] : List Int) : List Int)).bind fun y120 => (if y120.length + l0.length < 140737488355328 then (some (y120 ++ l0)) else (none))) = some r := h
  clear h
  obtain ⟨y120, hy120⟩ : ∃ y_ : List Int, y_ = (([] : List Int)) := ⟨_, rfl⟩
  replace H : (if y120.length + l0.length < 140737488355328 then (some (y120 ++ l0)) else (none)) = some r := by first | (rw [hy120]; with_reducible exact H) | (have H2_ := (Option.bind_some _ _).symm.trans H; rw [hy120]; with_reducible exact H2_) | (have H2_ := (Option.bind_some _ _).symm.trans H; with_reducible exact H2_) | with_reducible exact H | (rw [hy120]; exact H) | exact H
  have Ny120 := Aside0.mk hy120
  clear hy120
  by_cases c2 : y120.length + l0.length < 140737488355328
  · rw [if_pos c2] at H
    have LMc2 := Aside0.mk c2
    clear c2
    obtain ⟨y123, hy123⟩ : ∃ y_ : List Int, y_ = (y120 ++ l0) := ⟨_, rfl⟩
    replace H : (some y123) = some r := by first | (rw [hy123]; with_reducible exact H) | (have H2_ := (Option.bind_some _ _).symm.trans H; rw [hy123]; with_reducible exact H2_) | (have H2_ := (Option.bind_some _ _).symm.trans H; with_reducible exact H2_) | with_reducible exact H | (rw [hy123]; exact H) | exact H
    have Ny123 := Aside0.mk hy123
    clear hy123
    obtain rfl := Option.some.inj H
    go_enter Try.func25, Try.ntmps25
    go_wp2_with (first | ((with_reducible refine gate_dst (N := 5) rfl ?_); refine Kd.R_lit (Kd.int .u8) _ 5 ?hg (N := 5) ?hd (xs := ([] : List Int)) (inner := []) (ok := fun _ => True) (okp := fun _ => True) ?hr ?hp (fun _ hk => hk) trivial (Below.refl _ _) (Nat.le_refl _) (by simp) ?_; (case hd => rfl); (case hg => rfl); (case hr => first | (go_simp; done) | (go_simp; rfl)); (case hp => exact (Reps.none _ _)); intro v121 w3 ho4 hb hg_ hnew_; clear hg_ hnew_; (first | rw [← Ny120.out] at ho4 | (simp only [Int.reduceToNat] at ho4; rw [← Ny120.out] at ho4)); have n0_ := Aside0.mk (Kd.R_lower ho4 (below_size (by repeat (first | (with_reducible first | exact HB.out | apply below_alloc | apply pw_below_drewN | apply below_drew1) | exact HB.out)))); have n1_ := Aside0.mk (below_step (by repeat (first | (with_reducible first | exact HB.out | apply below_alloc | apply pw_below_drewN | apply below_drew1) | exact HB.out)) hb); clear HB; have HO122 := n0_; have HB := n1_; clear n0_ n1_; clear hb ho4) | ((with_reducible refine gate_builtin (b := .append) (xs := #[.tmp 5, .tmp 6]) rfl ?_); at_builtin; refine Kd.R_append_rows (Kd.int .u8) (w0 := w) w.heap.size rfl (.tmp 5) (.tmp 6) 23 5 (.int .u8 0) 1 rfl Try.underlying23 info5 rfl (by decide) (by omega) v121 y120 l0 _ _ _ (fun _ => True) (fun _ => False) rfl rfl ?aO ?aR (fun _ _ h => h) (fun _ h => h.elim) ?aF ?aB ?aS ?aL ?_; (case aR => repeat (first | exact (Kd.C_below HR0.out HB.out) | (with_reducible refine Kd.C_alloc ?_ _) | (with_reducible refine Kd.C_drewN ?_ _) | (with_reducible refine Kd.C_drew ?_))); (case aB => exact (by repeat (first | (with_reducible first | exact HB.out | apply below_alloc | apply pw_below_drewN | apply below_drew1) | exact HB.out))); (case aF => exact (fun _ _ => trivial)); (case aO => exact (by (with_reducible repeat (first | apply Kd.R_alloc | apply Kd.R_drewN | apply Kd.R_drew)); exact HO122.out)); (case aS => exact (below_size (by repeat (first | (with_reducible first | exact HB.out | apply below_alloc | apply pw_below_drewN | apply below_drew1) | exact HB.out)))); (case aL => have := LMc2.out; omega); intro v124 w5 ho hb hg hat; rw [← Ny123.out] at ho; have n0_ := Aside0.mk (hb); have n1_ := Aside0.mk (ho); clear HB; clear HO122; have HB := n0_; have HO125 := n1_; clear n0_ n1_; clear ho hb hg hat))
    go_ret
    exact ⟨_, by first | rfl | (simp [errW_none, errW_some] <;> rfl) | (simp [*, errW_none, errW_some] <;> rfl), by (with_reducible repeat (first | apply Kd.R_alloc | apply Kd.R_drewN | apply Kd.R_drew)); exact HO125.out, by repeat (first | (with_reducible first | exact HB.out | apply below_alloc | apply pw_below_drewN | apply below_drew1) | exact HB.out)⟩
  · rw [if_neg c2] at H
    exact absurd H (by simp)

end Go.Proofs.Ytblkhkipbcpaiaa.PTopSealed
