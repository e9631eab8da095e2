/- Printed by a program of this session (wip/myprint.py): Go functions of the law as Lean functions, and the proof that the code comes to these answers. -/
import Derived.Test.YtlgehakaedokeaaPFetchAllx0
import Derived.Test.YtlgehakaedokeaaPFetchAllx2
import Derived.Test.YtlgehakaedokeaaPFetchAllx3
namespace Go.Proofs.Ytlgehakaedokeaa.PFetchAll
open Go.RowKit Go.Proofs.YtlgehakaedokeaaW.PrintWords Go.Proofs.YtlgehakaedokeaaW.PrintLast Go.Proofs.YtlgehakaedokeaaW.PrintMore
attribute [local go_sem] max2_int min2_int max_two min_two max_three min_three max_four min_four   -- for this text's walks alone
attribute [local go_sem] pn_setCell_drewN
set_option linter.unusedVariables false
set_option linter.unusedSimpArgs false

/-! ### packthreadkeep_fetched: function 27, by hand -/
/-! ### the driver: one round, and all of them -/
def bOK (w : S82) : Prop := (0 ≤ w.f0 ∧ w.f0 ≤ 10000) ∧ (1 ≤ w.f1 ∧ w.f1 ≤ 100)
instance (w : S82) : Decidable (bOK w) := by unfold bOK; exact inferInstance
def xOf (order : List Int) (i : Nat) : Int := if i < order.length then rd order (i : Int) else 3 * (i : Int)
def mOf (file : List Int) (x : Int) (w : S82) : Int :=
  if (wrap64 (Int.tdiv x 8)) % 3 = 0 then (mn w.f1 ((file.length : Int) - w.f0) + 1) / 2 else mn w.f1 ((file.length : Int) - w.f0)
def dataOf (file : List Int) (x : Int) (w : S82) : List Int :=
  if w.f0 < (file.length : Int) then (file.take (w.f0 + mOf file x w).toNat).drop w.f0.toNat else []
def meetsB (w q : S82) : Bool := decide (w.f0 < q.f0 + q.f1) && decide (q.f0 < w.f0 + w.f1)
def joinF : List S82 → List S82 → Option (List S82)
  | [], out => some out
  | w :: ws, out => if bOK w ∧ (out.any fun q => meetsB w q) = false then joinF ws (out ++ [w]) else none
def kOf (x : Int) (n : Nat) : Nat := (x % (n : Int)).toNat
def gsOf (file order : List Int) (i : Nat) (gots : List S65) (out : List S82) : List S65 :=
  gots ++ [⟨(rd_T82 out (kOf (xOf order i) out.length : Nat)).f0, (rd_T82 out (kOf (xOf order i) out.length : Nat)).f1, dataOf file (xOf order i) (rd_T82 out (kOf (xOf order i) out.length : Nat))⟩]
def stepF (file order : List Int) (i : Nat) (gots : List S65) (out : List S82) : Option (List S82 × S71) :=
  if 1 ≤ out.length ∧ out.length ≤ 6 ∧ (∀ w, w ∈ out → bOK w) then
    (fetch_Play.f (gsOf file order i gots out)).bind fun n =>
      if n.2 = 0 ∧ n.1.length = gots.length + 2 ∧ (rd_T71 n.1 ((gots.length + 1 : Nat) : Int)).f0 = 0 ∧ (rd_T71 n.1 ((gots.length + 1 : Nat) : Int)).f1.length ≤ 100 then
        (joinF (rd_T71 n.1 ((gots.length + 1 : Nat) : Int)).f1 (out.eraseIdx (kOf (xOf order i) out.length))).map fun o => (o, rd_T71 n.1 ((gots.length + 1 : Nat) : Int))
      else none
  else none
def runF (file order : List Int) : Nat → Nat → List S65 → List S82 → Option (List Int)
  | 0, _, _, _ => none
  | m + 1, i, gots, out => (stepF file order i gots out).bind fun r => if r.2.f2 = true then some r.2.f3 else runF file order m (i + 1) (gsOf file order i gots out) r.1
def wants0 : List S82 := (onL (-1) 6 [] 0 []).2.2
def packthreadkeep_fetched.f (l0 : List Int) (l1 : List Int) : Option (List Int × Bool) :=
  if l0.length ≤ 100000 then (runF l0 l1 280 0 [] wants0).map fun r => (r, true) else none
/-- what the driver holds: the row of what was got, the row of what is open -/
structure DR (w wr : World) (v6 v9 : Value) (gots : List S65) (out : List S82) : Prop where
  g : Kd.N k65 65 wr w.heap.size (fun k => some k ≠ v9.ownBlock) v6 gots
  o : k82.R 82 wr w.heap.size (fun _ => True) v9 out
  b : Below w.heap.size w wr
theorem play_nil : fetch_Play.f [] = some ([⟨0, wants0, false, []⟩], 0) := rfl
theorem stepF_some {file order : List Int} {i : Nat} {gots : List S65} {out o : List S82} {last : S71} (h : stepF file order i gots out = some (o, last)) :
    1 ≤ out.length ∧ out.length ≤ 6 ∧ (∀ w, w ∈ out → bOK w) ∧ ∃ n, fetch_Play.f (gsOf file order i gots out) = some (n, 0) ∧ n.length = gots.length + 2 ∧ rd_T71 n ((gots.length + 1 : Nat) : Int) = last ∧ last.f0 = 0 ∧ last.f1.length ≤ 100 ∧ joinF last.f1 (out.eraseIdx (kOf (xOf order i) out.length)) = some o := by
  unfold stepF at h
  by_cases c : 1 ≤ out.length ∧ out.length ≤ 6 ∧ (∀ w, w ∈ out → bOK w)
  · rw [if_pos c] at h
    rcases hp : fetch_Play.f (gsOf file order i gots out) with _ | ⟨n, e⟩
    · rw [hp] at h; cases h
    · rw [hp, Option.bind_some] at h
      dsimp only at h
      by_cases c2 : e = 0 ∧ n.length = gots.length + 2 ∧ (rd_T71 n ((gots.length + 1 : Nat) : Int)).f0 = 0 ∧ (rd_T71 n ((gots.length + 1 : Nat) : Int)).f1.length ≤ 100
      · rw [if_pos c2] at h
        obtain ⟨q, h1, h2⟩ := Option.map_eq_some_iff.1 h
        injection h2 with h2 h3
        subst h2 h3
        refine ⟨c.1, c.2.1, c.2.2, n, ?_, c2.2.1, rfl, c2.2.2.1, c2.2.2.2, h1⟩
        rw [c2.1]
      · rw [if_neg c2] at h; cases h
  · rw [if_neg c] at h; cases h
theorem picked_ (a n : Int) (h0 : 0 < n) (h1 : n ≤ 1000000000000) : packthreadkeep_Picked.f a n = some (a % n) := by
  unfold packthreadkeep_Picked.f
  rw [if_neg (by omega)]
  have hm := Int.tmod_eq_emod (a := a) (b := n)
  have hlo := Int.emod_nonneg a (show n ≠ 0 by omega)
  have hhi := Int.emod_lt_of_pos a h0
  by_cases hc : 0 ≤ a ∨ n ∣ a
  · rw [if_pos hc] at hm
    have e : a.tmod n = a % n := by rw [hm]; simp
    rw [e, if_neg (by omega)]
  · rw [if_neg hc] at hm
    have e : a.tmod n = a % n - n := by rw [hm]; congr 1; omega
    rw [e, if_pos (by omega)]
    unfold wrap64
    congr 1; omega
theorem k_of (x : Int) (n : Nat) (h : 1 ≤ n) : ((kOf x n : Nat) : Int) = x % (n : Int) ∧ kOf x n < n := by
  unfold kOf
  have := Int.emod_nonneg x (show (n : Int) ≠ 0 by omega)
  have := Int.emod_lt_of_pos x (show (0 : Int) < (n : Int) by omega)
  omega
theorem DR.below {w wr w1 : World} {v6 v9 : Value} {gots : List S65} {out : List S82} (h : DR w wr v6 v9 gots out) (hb : Below wr.heap.size wr w1) : DR w w1 v6 v9 gots out := ⟨Kd.N_below h.g hb, Kd.R_below h.o hb, below_step h.b hb⟩
theorem below_of_none {w w1 : World} {v : Value} (hg : w.grownBy w1 v.ownBlock) (hv : v.ownBlock = none) : Below w.heap.size w w1 := ⟨hg.os, hg.tape, hg.output, hg.size, fun k hk => hg.block k hk (by rw [hv]; simp)⟩
theorem norm2_ {K : Act → World → Prop} {a a' : Act} {w : World} (h : a = a') (hk : K a' w) : K a w := h ▸ hk
theorem DR.reout {w w7 w8 w10 : World} {v6 v9 v8 v10 : Value} {gots : List S65} {out out' : List S82} (h : DR w w7 v6 v9 gots out) (hb8 : Below w7.heap.size w7 w8) (h8 : ∀ q, v8.ownBlock = some q → w7.heap.size ≤ q) (hg : w8.grownBy w10 v8.ownBlock) (hat : v10.ownBlock = v8.ownBlock ∨ ∃ b, v10.ownBlock = some b ∧ w8.heap.size ≤ b) (ho : k82.R 82 w10 w.heap.size (fun _ => True) v10 out') (hb : Below w.heap.size w8 w10) : DR w w10 v6 v10 gots out' := by
  have hs := hb8.size
  refine ⟨Kd.N_mono (Kd.N_step (Kd.N_bound h.g) (fun q hq hlt => ?_)) (fun q hq e => ?_), ho, (below_step h.b hb8).trans hb⟩
  · exact (hg.block q (by omega) (fun e => by have := h8 q e.symm; omega)).trans (hb8.block q hlt)
  · have hq2 := hq.2
    rcases hat with e1 | ⟨b, e1, h1⟩
    · have := h8 q (e1 ▸ e.symm); omega
    · rw [e1] at e; injection e with e; omega
/-- what the driver holds while the answer's wants are looked through -/
structure JR (w wr : World) (g2 : Nat) (v6 v9 v1 v3 : Value) (gs : List S65) (o ws : List S82) (lb : Bool) (nd : List Int) : Prop where
  d : DR w wr v6 v9 gs o
  r1 : k82.R 82 wr w.heap.size (fun q => some q ≠ v9.ownBlock) v1 ws
  r3 : (Kd.int .u8).R 5 wr w.heap.size (fun _ => True) v3 nd
  blk : wr.heap[g2]? = some (.cells #[.int .i64 0, v1, .bool lb, v3] 71 (0, 0))
theorem JR.below {w wr w1 : World} {g2 : Nat} {v6 v9 v1 v3 : Value} {gs : List S65} {o ws : List S82} {lb : Bool} {nd : List Int} (h : JR w wr g2 v6 v9 v1 v3 gs o ws lb nd) (hb : Below wr.heap.size wr w1) : JR w w1 g2 v6 v9 v1 v3 gs o ws lb nd :=
  ⟨h.d.below hb, Kd.R_below h.r1 hb, Kd.R_below h.r3 hb, blk_below h.blk hb⟩
theorem JR.app {w wr w1 : World} {g2 : Nat} {v6 v9 v9' v1 v3 : Value} {gs : List S65} {o o' ws : List S82} {lb : Bool} {nd : List Int} (h : JR w wr g2 v6 v9 v1 v3 gs o ws lb nd) (hg : wr.grownBy w1 v9.ownBlock) (hat : v9'.ownBlock = v9.ownBlock ∨ ∃ b, v9'.ownBlock = some b ∧ wr.heap.size ≤ b) (ho : k82.R 82 w1 w.heap.size (fun _ => True) v9' o') (hb : Below w.heap.size wr w1) : JR w w1 g2 v6 v9' v1 v3 gs o' ws lb nd := by
  have hr1 := h.r1
  refine ⟨⟨Kd.N_mono (Kd.N_after (Kd.N_mono h.d.g (ok' := fun q => True ∧ some q ≠ v9.ownBlock) (fun _ hq => ⟨trivial, hq⟩)) hg hat) (fun _ hq => hq.2), ho, h.d.b.trans hb⟩, ?_, R5_keep h.r3 (fun q hq => hg.block q (Kd.R_lt h.r3 q hq) (fun e => ne_typed_ (Kd.R_typed h.r3 q hq) (Kd.R_typed h.d.o q e.symm) (by decide) rfl)), (hg.block g2 (blk_lt h.blk) (fun e => ne_typed_ ⟨_, h.blk⟩ (Kd.R_typed h.d.o g2 e.symm) (by decide) rfl)).trans h.blk⟩
  refine R82_re (R82_keep (R82_re hr1 (fun _ _ => trivial)) (fun q hq => hg.block q (Kd.R_lt hr1 q hq) (hr1.1 q hq))) (fun q hq e => ?_)
  rcases hat with e1 | ⟨b, e1, h1⟩
  · exact hr1.1 q hq (e.trans e1)
  · rw [e1] at e
    injection e with e
    have := Kd.R_lt hr1 q hq
    omega
set_option maxHeartbeats 8000000 in
set_option maxRecDepth 100000 in
theorem fetched_calls (A0 : Option Addr) (c0 : Nat) (file : List Int) (A1 : Option Addr) (c1 : Nat) (order : List Int) (res : List Int) (w : World) (hr0 : Kd.C (Kd.int .u8) w A0 file.length file) (hc0 : file.length ≤ c0) (hr1 : Kd.C (Kd.int .i64) w A1 order.length order) (hc1 : order.length ≤ c1) (hf : file.length ≤ 100000) (h : runF file order 280 0 [] wants0 = some res) :
    Calls Try.prog 27 #[.slice A0 file.length c0, .slice A1 order.length c1] w fun e w' => ∃ v0_ : Value, e = .returned (.tuple #[v0_, .bool true]) ∧ Kd.R (Kd.int .u8) 5 w' w.heap.size (fun _ => True) v0_ res ∧ Below w.heap.size w w' := by
  have hu65 := Try.underlying65
  have hu71 := Try.underlying71
  have hu82 := Try.underlying82
  have HR0 := Aside0.mk hr0
  have HR1 := Aside0.mk hr1
  have HC0 := Aside0.mk hc0
  have HC1 := Aside0.mk hc1
  have HFL := Aside0.mk hf
  have H := Aside0.mk h
  have HW0 := Aside0.mk (show wants0.length = 6 by rfl)
  clear hr0 hr1 hc0 hc1 hf h
  obtain ⟨ws0, hws0⟩ : ∃ y, wants0 = y := ⟨_, rfl⟩
  have HPN := Aside0.mk play_nil
  rw [hws0] at H HW0 HPN
  clear hws0
  go_enter Try.func27, Try.ntmps27
  go_upto_region 5 with (first
    | ((with_reducible refine gate_callee (f := 29) rfl ?_); refine goesL_ _ rfl rfl Try.func29 (by kernel_rfl) rfl #[.slice none 0 0] rfl (by (try simp only [List.map_toArray, List.map_cons, List.map_nil]); first | done | rfl) ?_; refine (fetch_Play.calls none 0 [] _ 0 w (Kd.C_nil _ _) (Nat.le_refl _) HPN.out).mono ?_; rintro e w1 ⟨v1, rfl, ho, hb⟩; refine ⟨_, rfl, ?_⟩; obtain ⟨A7, c7, e7⟩ := Kd.S_slice ho; subst e7; have HO1 := Aside0.mk ho; have HB1 := Aside0.mk hb; clear ho hb))
  obtain ⟨ad, B1, d1, B3, d3, e0, f0, f1, f2, f3, hd1, hC1, hd3, hC3⟩ := at_T71 (Kd.S_reads' HO1.out).2.2 0 (by decide) (by simp)
  subst e0
  rw [show (0 : Int).toNat * 4 = 0 from rfl, Addr.add_zero'] at f0 f1 f2 f3
  change w1.cell? ⟨ad.block, ad.off + 1, none⟩ = some (.slice B1 ws0.length d1) at f1
  replace hC1 : k82.C w1 B1 ws0.length ws0 := hC1
  have HCB := Aside0.mk hC1
  clear f0 f2 f3 hd1 hC1 hd3 hC3
  go_upto_region 6 with (first
    | ((with_reducible refine gate_builtin (b := .append) (xs := #[.const (.slice none 0 0), .tmp 33]) rfl ?_); at_builtin; refine Kd.R_append_rows k82 (w0 := w) (W := w1) w.heap.size rfl (.const (.slice none 0 0)) (.tmp 33) 69 82 (.agg #[.int .i64 0, .int .i64 0]) 16 rfl Try.underlying69 info82 rfl (by decide) (by decide) (.slice none 0 0) [] ws0 B1 ws0.length d1 (fun _ => True) (fun _ => False) rfl rfl (Kd.R_nil _ _ _ _ _) HCB.out (fun x cs h => by rw [k82_open h]; exact k82_mkM _ _ _ x) (fun _ h => h.elim) (fun _ _ => trivial) HB1.out HB1.out.size ?aL ?_; (case aL => have := HW0.out; simp only [List.length_nil]; omega); intro v2 w2 ho hb hg hat; rw [List.nil_append] at ho; obtain ⟨A9, c9, e9⟩ := Kd.R_slice ho; subst e9; have HO2 := Aside0.mk ho; have HB2 := Aside0.mk hb; clear ho hb hg hat))
  have HD := Aside0.mk (DR.mk (gots := []) (Kd.N_nil _ _ _ _ _) HO2.out HB2.out)
  clear f1 HCB HO2 HB2 HB1 HO1 HPN HW0
  go_wp2
  go_loopw [6, 9, 10] (fun v6 v9 v10 wr => ∃ (i m : Nat) (gots : List S65) (out : List S82), i + m = 280 ∧ v10 = .int .i64 (i : Int) ∧ Aside0 (runF file order m i gots out = some res) ∧ Aside0 (gots.length = i) ∧ Aside0 (DR w wr v6 v9 gots out)) (fun _ _ v10 _ => 280 - (intOf v10).toNat)
  case atStart => exact ⟨0, 280, [], ws0, rfl, rfl, H, ⟨rfl⟩, HD⟩
  case round =>
    clear HD H
    obtain ⟨i, m, gots, out, him, rfl, H, HGL, HD⟩ := hrel
    obtain ⟨wo, hwo⟩ : ∃ wo : World, wo = wr := ⟨_, rfl⟩
    subst hwo
    rcases m with _ | m
    · have h := H.out
      rw [runF] at h
      cases h
    rcases hst : stepF file order i gots out with _ | ⟨o2, last⟩
    · have h := H.out
      rw [runF, hst] at h
      cases h
    have h := H.out
    rw [runF, hst, Option.bind_some] at h
    dsimp only at h
    have H2 := Aside0.mk h
    clear h H
    obtain ⟨hl1, hl6, hbo, n, hpn, hnl, hlast, hl0, hl100, hjo⟩ := stepF_some hst
    clear hst
    obtain ⟨x, hx⟩ : ∃ x, xOf order i = x := ⟨_, rfl⟩
    obtain ⟨k, hk⟩ : ∃ k, kOf x out.length = k := ⟨_, rfl⟩
    obtain ⟨hkx, hkl⟩ := k_of x out.length hl1
    rw [hk] at hkx hkl
    obtain ⟨⟨f0, f1⟩, hwv⟩ : ∃ y, rd_T82 out (k : Int) = y := ⟨_, rfl⟩
    obtain ⟨d, hd⟩ : ∃ y, dataOf file x ⟨f0, f1⟩ = y := ⟨_, rfl⟩
    have hgs : gsOf file order i gots out = gots ++ [⟨f0, f1, d⟩] := by
      unfold gsOf
      rw [hx, hk, hwv, hd]
    rw [hx, hk] at hjo
    rw [hgs] at hpn H2
    obtain ⟨A9, c9, e9⟩ := Kd.R_slice HD.out.o
    subst e9
    have hbw : bOK ⟨f0, f1⟩ := by
      have h9 : rd_T82 out (k : Int) = out[k] := by
        rw [rd_T82, Int.toNat_natCast, List.getD_eq_getElem?_getD, List.getElem?_eq_getElem hkl]; rfl
      rw [← hwv, h9]
      exact hbo _ (List.getElem_mem hkl)
    have HX := Aside0.mk hx
    have HK := Aside0.mk (And.intro hk (And.intro hkx hkl))
    have HWV := Aside0.mk hwv
    have HDA := Aside0.mk hd
    have HPN := Aside0.mk hpn
    have HNL := Aside0.mk hnl
    have HLAST := Aside0.mk hlast
    have HL0 := Aside0.mk hl0
    have HJO := Aside0.mk hjo
    have HBO := Aside0.mk hbo
    have HL100 := Aside0.mk hl100
    have HBW := Aside0.mk hbw
    have HL16 := Aside0.mk (And.intro hl1 hl6)
    have HIM := Aside0.mk him
    have k0 : decide ((i : Int) < 280) = true := decide_eq_true (by omega)
    have k1 : ((out.length : Int) == 0) = false := beq_eq_false_iff_ne.2 (by omega)
    have k2 : decide (6 < (out.length : Int)) = false := decide_eq_false (by omega)
    have k2' : decide (6 < out.length) = false := decide_eq_false (by omega)
    have k1' : (out.length == 0) = false := beq_eq_false_iff_ne.2 (by omega)
    have hw3 : IntKind.i64.wrap ((i : Int) * 3) = (i : Int) * 3 := by simp only [i64_w]; unfold wrap64; omega
    clear hl1 hl6 hbo hpn hnl hlast hl0 hl100 hjo hbw hkx hkl hwv hd hgs hk him hx
    go_upto_if 52 with (fail)
    go_cut [11] (fun v11 wc => v11 = .int .i64 x ∧ wc = wo)
    case first =>
      as_aux_lemma =>
        by_cases ci : i < order.length
        · have kb : decide ((i : Int) < (order.length : Int)) = true := decide_eq_true (by omega)
          have kb' : decide (i < order.length) = true := decide_eq_true ci
          have ci' : (i : Int) < (order.length : Int) := by omega
          obtain ⟨ad1, rfl, hx1⟩ := Kd.at_int (Kd.C_below HR1.out HD.out.b) (i : Int) (by omega) (by omega)
          rw [Int.toNat_natCast] at hx1
          have hxv : rd order (i : Int) = x := by rw [← HX.out]; unfold xOf; rw [if_pos ci]
          rw [hxv] at hx1
          go_wp2
          go_meet
          case rel => exact ⟨rfl, rfl⟩
        · have kb : decide ((i : Int) < (order.length : Int)) = false := decide_eq_false (by omega)
          have kb' : decide (i < order.length) = false := decide_eq_false ci
          have hxv : (i : Int) * 3 = x := by rw [← HX.out]; unfold xOf; rw [if_neg ci, Int.mul_comm]
          rw [hxv]
          go_wp2
          go_meet
          case rel => exact ⟨rfl, rfl⟩
    case rest =>
      obtain ⟨rfl, hwc⟩ := hcut
      subst hwc
      clear hw3 k0 k1 k2 k1' k2'
      have HB1 := Aside0.mk HD.out.b
      have k3 : 1 ≤ out.length := HL16.out.1
      obtain ⟨nd, hnd⟩ : ∃ y : Nat, y = 0 := ⟨0, rfl⟩
      have HPK := Aside0.mk (picked_ x (out.length : Int) (by omega) (by have := HL16.out.2; omega))
      rw [← HK.out.2.1] at HPK
      clear nd hnd
      go_upto_region 15 with (first
        | ((with_reducible refine gate_callee (f := 14) rfl ?_); refine goesL_ _ rfl rfl Try.func14 (by kernel_rfl) rfl #[.int .i64 x, .int .i64 (out.length : Int)] rfl (by (try simp only [List.map_toArray, List.map_cons, List.map_nil]); first | done | rfl) ?_; refine (packthreadkeep_Picked.calls x (out.length : Int) (k : Int) wc HPK.out).mono ?_; rintro e w3 ⟨rfl, ⟨nd, rfl⟩⟩; refine ⟨_, rfl, ?_⟩))
      obtain ⟨w3, hw3⟩ : ∃ y, wc.drewN nd = y := ⟨_, rfl⟩
      have hb3 : Below wc.heap.size wc w3 := by rw [← hw3]; exact pw_below_drewN (Below.refl _ _) _
      have HD3 := Aside0.mk (HD.out.below hb3)
      rw [hw3]
      clear hw3 hb3 HB1 HPK HD
      have k3' : (k : Int) < (out.length : Int) := by have := HK.out.2.2; omega
      obtain ⟨ad2, rfl, hx0, hx1⟩ := at_T82 (Kd.R_reads' HD3.out.o).2.2 (k : Int) (by omega) k3'
      rw [Int.toNat_natCast, HWV.out] at hx0 hx1
      dsimp only at hx0 hx1
      go_upto_region 16 with (fail)
      have hT4 := blk_new w3 (Obj.cells #[.int .i64 f0, .int .i64 f1] 82)
      obtain ⟨w4, hw4⟩ : ∃ y, w3.alloc (Obj.cells #[.int .i64 f0, .int .i64 f1] 82) = y := ⟨_, rfl⟩
      have hb4 : Below w3.heap.size w3 w4 := by rw [← hw4]; exact below_alloc (Below.refl _ _) _
      rw [hw4] at hT4 ⊢
      have HD4 := Aside0.mk (HD3.out.below hb4)
      obtain ⟨g, hg⟩ : ∃ y, w3.heap.size = y := ⟨_, rfl⟩
      rw [hg] at hT4 ⊢
      have HT4 := Aside0.mk hT4
      have t0 : w4.cell? ⟨g, 0, none⟩ = some (.int .i64 f0) := (blk_cell hT4 0).trans rfl
      have t1 : w4.cell? ⟨g, 1, none⟩ = some (.int .i64 f1) := (blk_cell hT4 1).trans rfl
      clear hw4 hb4 hT4 hg hx0 hx1 HD3
      have k4 : decide (f0 < 0) = false := decide_eq_false (by have := HBW.out.1; dsimp only at this; omega)
      have k5 : decide (f1 < 1) = false := decide_eq_false (by have := HBW.out.2; dsimp only at this; omega)
      have k6 : decide (100 < f1) = false := decide_eq_false (by have := HBW.out.2; dsimp only at this; omega)
      go_upto_if 82 with (fail)
      clear k4 k5 k6
      go_cut [14] (fun v14 wq => Aside0 ((Kd.int .u8).R 5 wq w.heap.size (fun _ => True) v14 d) ∧ Aside0 (DR w wq u6 (.slice (some ad2) out.length c9) gots out) ∧ Aside0 (wq.heap[g]? = some (.cells #[.int .i64 f0, .int .i64 f1] 82 (0, 0))))
      case first =>
        as_aux_lemma =>
          by_cases cf : f0 < (file.length : Int)
          · have kf : decide (f0 < (file.length : Int)) = true := decide_eq_true cf
            have hbw := HBW.out
            have hfl := HFL.out
            unfold bOK at hbw
            dsimp only at hbw
            have hw5 : IntKind.i64.wrap ((file.length : Int) - f0) = (file.length : Int) - f0 := by simp only [i64_w]; unfold wrap64; omega
            obtain ⟨m0, hm0⟩ : ∃ y, (if (file.length : Int) - f0 < f1 then (file.length : Int) - f0 else f1) = y := ⟨_, rfl⟩
            have hm1 : 1 ≤ m0 ∧ m0 ≤ f1 ∧ f0 + m0 ≤ (file.length : Int) := by rw [← hm0]; split <;> omega
            obtain ⟨q8, hq8⟩ : ∃ y, wrap64 (Int.tdiv x 8) = y := ⟨_, rfl⟩
            have hq8' : IntKind.i64.wrap (Int.tdiv x 8) = q8 := by rw [i64_w]; exact hq8
            obtain ⟨t3, ht3⟩ : ∃ y, q8 % 3 = y := ⟨_, rfl⟩
            obtain ⟨m, hm⟩ : ∃ y, mOf file x ⟨f0, f1⟩ = y := ⟨_, rfl⟩
            have hmm : (if t3 = 0 then (m0 + 1) / 2 else m0) = m := by
              rw [← hm, ← ht3, ← hq8, ← hm0]
              rfl
            have HPK := Aside0.mk (picked_ q8 3 (by decide) (by decide))
            rw [ht3] at HPK
            have HMM := Aside0.mk hmm
            have HDM := Aside0.mk hm
            have HM1 := Aside0.mk hm1
            have HBW2 := Aside0.mk hbw
            clear hm ht3 hmm hq8 hm1 hbw hfl
            go_upto_if 94 with (first
              | ((with_reducible refine gate_callee (f := 14) rfl ?_); refine goesL_ _ rfl rfl Try.func14 (by kernel_rfl) rfl #[.int .i64 q8, .int .i64 3] rfl (by (try simp only [List.map_toArray, List.map_cons, List.map_nil]); first | done | rfl) ?_; refine (packthreadkeep_Picked.calls q8 3 t3 w4 HPK.out).mono ?_; rintro e w5 ⟨rfl, ⟨nq, rfl⟩⟩; refine ⟨_, rfl, ?_⟩))
            obtain ⟨w5, hw5'⟩ : ∃ y, w4.drewN nq = y := ⟨_, rfl⟩
            have hb5 : Below w4.heap.size w4 w5 := by rw [← hw5']; exact pw_below_drewN (Below.refl _ _) _
            have HD5 := Aside0.mk (HD4.out.below hb5)
            have HT5 := Aside0.mk (blk_below HT4.out hb5)
            have s0 : w5.cell? ⟨g, 0, none⟩ = some (.int .i64 f0) := pw_cell_below hb5 t0
            rw [hw5']
            clear hw5' hb5 t0 t1 HPK hm0 hw5 hq8' kf
            go_cut [15] (fun v15 wq => v15 = .int .i64 m ∧ wq = w5)
            case first =>
              as_aux_lemma =>
                have hm1 := HM1.out
                have hbw := HBW2.out
                by_cases c3 : t3 = 0
                · have c3b : (t3 == 0) = true := beq_iff_eq.2 c3
                  have hw6 : IntKind.i64.wrap (m0 + 1) = m0 + 1 := by simp only [i64_w]; unfold wrap64; omega
                  have hw7 : IntKind.i64.wrap (Int.tdiv (m0 + 1) 2) = m := by
                    rw [← HMM.out, if_pos c3, Int.tdiv_eq_ediv_of_nonneg (by omega)]
                    simp only [i64_w]; unfold wrap64; omega
                  rw [c3b]
                  go_wp2
                  go_meet
                  case rel => exact ⟨rfl, rfl⟩
                · have c3b : (t3 == 0) = false := beq_eq_false_iff_ne.2 c3
                  have hm9 : m0 = m := by rw [← HMM.out, if_neg c3]
                  subst hm9
                  rw [c3b]
                  go_wp2
                  go_meet
                  case rel => exact ⟨rfl, rfl⟩
            case rest =>
              obtain ⟨rfl, hwd⟩ := hcut
              subst hwd
              have hm1 := HM1.out
              have hbw := HBW2.out
              have hfl := HFL.out
              have hmr : 1 ≤ m ∧ m ≤ f1 ∧ f0 + m ≤ (file.length : Int) := by
                rw [← HMM.out]
                split <;> omega
              have hdd : d = (file.take (f0 + m).toNat).drop f0.toNat := by
                rw [← HDA.out]
                unfold dataOf
                rw [HDM.out]
                dsimp only
                rw [if_pos cf]
              have hdl : d.length = (f0 + m).toNat - f0.toNat := by rw [hdd, List.length_drop, List.length_take]; omega
              obtain ⟨hi, hhi⟩ : ∃ y, f0 + m = y := ⟨_, rfl⟩
              have hw8 : IntKind.i64.wrap (f0 + m) = hi := by simp only [i64_w]; unfold wrap64; omega
              have hw9 : wrap64 (f0 + m) = hi := by unfold wrap64; omega
              rw [hhi] at hdl hdd hmr
              have q1 : f0 ≤ hi := by omega
              have q2 : hi ≤ (file.length : Int) := hmr.2.2
              have q3 : 0 ≤ f0 := hbw.1.1
              have hcf := Kd.C_mid (lo := f0.toNat) (hi := hi.toNat) (c := c0) (Kd.C_below HR0.out HD5.out.b) (by omega) (by omega) HC0.out
              obtain ⟨i0, hi0, _, hsz0, _⟩ := info_parts info5
              have hct := cut_mid (P := Try.prog) 57 5 .i64 .i64 Try.underlying57 hi0 1 hsz0 A0 file.length c0 f0 hi (by omega) (by omega) hmr.2.2 HC0.out
              obtain ⟨A5, hA5⟩ : ∃ A1, A1 = (if c0 = f0.toNat then A0 else A0.map (·.add (f0.toNat * 1))) := ⟨_, rfl⟩
              obtain ⟨c5, hc5⟩ : ∃ c1, c1 = c0 - f0.toNat := ⟨_, rfl⟩
              rw [← hdl, ← hA5, ← hc5] at hct
              rw [← hdd] at hcf
              replace hcf : (Kd.int .u8).C wc A5 d.length d := by rw [hA5]; exact hcf
              have HCF := Aside0.mk hcf
              have HDL := Aside0.mk (show d.length ≤ 100000 by omega)
              clear hm1 hbw hfl hmr hdd hdl hhi hcf hA5 hc5 hsz0 HM1 HMM HDM
              go_wp2_with (first
                | ((with_reducible refine gate_builtin (b := .append) (xs := #[.tmp 98, .tmp 106]) rfl ?_); at_builtin; refine Kd.R_append_rows (Kd.int .u8) (Rr := (Kd.int .u8).K wc) (w0 := wc) (W := wc) w.heap.size rfl (.tmp 98) (.tmp 106) 57 5 (.int .u8 0) 1 rfl Try.underlying57 info5 rfl (by decide) (by decide) (.slice none 0 0) [] d A5 d.length c5 (fun _ => True) (fun _ => False) rfl rfl (Kd.R_nil _ _ _ _ _) HCF.out (fun _ _ h => h) (fun _ h => h.elim) (fun _ _ => trivial) (Below.refl _ _) HD5.out.b.size ?aL ?_; (case aL => have := HDL.out; simp only [List.length_nil]; omega); intro v6' w6 ho hb hg hat; rw [List.nil_append] at ho; have HO6 := Aside0.mk ho; have HG6 := Aside0.mk (below_of_none hg rfl); clear ho hb hg hat))
              go_meet
              case rel => exact ⟨HO6, ⟨HD5.out.below HG6.out⟩, ⟨blk_below HT5.out HG6.out⟩⟩
          · have kf : decide (f0 < (file.length : Int)) = false := decide_eq_false cf
            have hd0 : d = [] := by rw [← HDA.out]; unfold dataOf; rw [if_neg cf]
            subst hd0
            rw [kf]
            go_wp2
            go_meet
            case rel => exact ⟨⟨Kd.R_nil _ _ _ _ _⟩, HD4, HT4⟩
      case rest =>
        obtain ⟨HO, HD6, HT6⟩ := hcut
        clear HD4 HT4 t0 t1
        obtain ⟨A14, c14, e14⟩ := Kd.R_slice HO.out
        subst e14
        obtain ⟨A6, c6, e6⟩ := Kd.N_slice HD6.out.g
        subst e6
        have hT6 := HT6.out
        have t0 : wc.cell? ⟨g, 0, none⟩ = some (.int .i64 f0) := (blk_cell hT6 0).trans rfl
        have t1 : wc.cell? ⟨g, 1, none⟩ = some (.int .i64 f1) := (blk_cell hT6 1).trans rfl
        clear hT6
        have hp6 : Kd.FK k65 wc (fun q => (Value.slice A14 d.length c14).ownBlock = some q) (⟨f0, f1, d⟩ : S65) [.int .i64 f0, .int .i64 f1, .slice A14 d.length c14] := Kd.FK_of_M (k65_mkM wc w.heap.size (fun q => (Value.slice A14 d.length c14).ownBlock = some q) (⟨f0, f1, d⟩ : S65) (R5_re HO.out (fun q hq => hq)))
        have hk6 : ∀ q, (Value.slice A14 d.length c14).ownBlock = some q → some q ≠ (Value.slice (some ad2) out.length c9).ownBlock ∧ some q ≠ (Value.slice A6 gots.length c6).ownBlock := fun q hq => ⟨fun e => ne_typed_ (Kd.R_typed HO.out q hq) (Kd.R_typed HD6.out.o q e.symm) (by decide) rfl, fun e => ne_typed_ (Kd.R_typed HO.out q hq) (Kd.N_typed HD6.out.g q e.symm) (by decide) rfl⟩
        have HP6 := Aside0.mk hp6
        have HK6 := Aside0.mk hk6
        have HLN := Aside0.mk (show (gots.length + 1) * 40 ≤ 140737488355328 by have := HIM.out; have := HGL.out; omega)
        clear hp6 hk6
        go_upto_region 25 with (first
          | ((with_reducible refine gate_builtin (b := .append) (xs := #[.tmp 108, .tmp 115]) rfl ?_); at_builtin; refine Kd.N_append k65 (w0 := wc) (W := wc) w.heap.size rfl (.tmp 108) (.tmp 115) 63 65 (.agg #[.int .i64 0, .int .i64 0, .slice none 0 0]) 40 rfl Try.underlying63 info65 rfl (by decide) (by decide) (.slice A6 gots.length c6) gots (⟨f0, f1, d⟩ : S65) [.int .i64 f0, .int .i64 f1, .slice A14 d.length c14] (fun q => some q ≠ (Value.slice (some ad2) out.length c9).ownBlock) (fun q => (Value.slice A14 d.length c14).ownBlock = some q) rfl rfl HP6.out HK6.out (fun q hq e => by have := Kd.R_lt HD6.out.o q e.symm; omega) HD6.out.g (Below.refl _ _) HD6.out.b.size HLN.out ?_; intro v7 w7 ho hb hg hat; have HO7 := Aside0.mk ho; have HB7 := Aside0.mk hb; have HG7 := Aside0.mk hg; clear ho hb hg hat))
        have HD7 := Aside0.mk (DR.mk HO7.out (R82_keep HD6.out.o (fun q hq => HG7.out.block q (Kd.R_lt HD6.out.o q hq) (fun e => ne_typed_ (Kd.R_typed HD6.out.o q hq) (Kd.N_typed HD6.out.g q e.symm) (by decide) rfl))) (HD6.out.b.trans HB7.out))
        clear t0 t1 HO7 HB7 HG7 HP6 HK6 HLN HD6 HO HT6
        obtain ⟨A7, c7', e7⟩ := Kd.N_slice HD7.out.g
        subst e7
        obtain ⟨Aq, hAq⟩ : ∃ y, some ad2 = y := ⟨_, rfl⟩
        rw [hAq] at HD7 ⊢
        clear hAq
        have hkl := HK.out.2.2
        have hl6 := HL16.out.2
        obtain ⟨kk, hkk⟩ : ∃ y : Int, (k : Int) + 1 = y := ⟨_, rfl⟩
        have hw1 : IntKind.i64.wrap ((k : Int) + 1) = kk := by simp only [i64_w]; unfold wrap64; omega
        have hw1' : wrap64 ((k : Int) + 1) = kk := by unfold wrap64; omega
        obtain ⟨i0, hi0, _, hsz0, _⟩ := info_parts info82
        have hrd := (Kd.R_reads' HD7.out.o)
        have hc1 := cut_to (P := Try.prog) 69 82 .i64 Try.underlying69 hi0 Aq out.length c9 (k : Int) (by omega) (by omega) hrd.2.1
        have hc2 := cut_from (P := Try.prog) 69 82 .i64 Try.underlying69 hi0 2 hsz0 Aq out.length c9 kk (by omega) (by omega)
        obtain ⟨A8, hA8⟩ : ∃ A1, A1 = (if c9 = kk.toNat then Aq else Aq.map (·.add (kk.toNat * 2))) := ⟨_, rfl⟩
        obtain ⟨c8, hc8⟩ : ∃ c1, c1 = c9 - kk.toNat := ⟨_, rfl⟩
        obtain ⟨l8, hl8⟩ : ∃ y, out.drop (k + 1) = y := ⟨_, rfl⟩
        obtain ⟨l7, hl7⟩ : ∃ y, out.take k = y := ⟨_, rfl⟩
        have hn8 : l8.length = out.length - kk.toNat := by rw [← hl8, List.length_drop]; omega
        have hn7 : l7.length = k := by rw [← hl7, List.length_take]; omega
        rw [← hA8, ← hc8, ← hn8] at hc2
        rw [Int.toNat_natCast] at hc1
        have hC7 := Kd.C_take (m := k) hrd.2.2 (by omega)
        rw [hl7, hn7] at hC7
        have hC8 := Kd.C_drop (m := k + 1) hrd.2.2 (by omega) hrd.2.1
        rw [hl8] at hC8
        replace hC8 : k82.C w7 A8 l8.length l8 := by rw [hA8, show kk.toNat = k + 1 by omega]; exact hC8
        have HC7 := Aside0.mk hC7
        have HC8 := Aside0.mk hC8
        have HLT := Aside0.mk (And.intro hn7 (show l8.length ≤ 6 by omega))
        have HKL := Aside0.mk (And.intro hkl hl6)
        have HSPL := Aside0.mk (show l7 ++ l8 = out.eraseIdx k by rw [← hl7, ← hl8, List.eraseIdx_eq_take_drop_succ])
        clear hl8 hl7 hA8 hc8 hn8 hn7 hC7 hC8 hrd hsz0 hkl hl6 hkk
        go_cut [9] (fun v9 wq => Aside0 (DR w wq (Value.slice A7 (gots ++ [(⟨f0, f1, d⟩ : S65)]).length c7') v9 (gots ++ [⟨f0, f1, d⟩]) (out.eraseIdx k)))
        case first =>
          as_aux_lemma =>
            go_region_held3 (fun _ => True) (exact True.intro) (first
              | (refine Kd.R_append_rows_step k82 (Rr := k82.K w7.drew) (w0 := w7.drew) (W := w7.drew) w.heap.size rfl (.const (.slice none 0 0)) (.tmp 119) 69 82 (.agg #[.int .i64 0, .int .i64 0]) 16 rfl Try.underlying69 info82 rfl (by decide) (by decide) (.slice none 0 0) [] l7 Aq k c9 (fun _ => True) (fun _ => False) rfl rfl (Kd.R_nil _ _ _ _ _) (Kd.C_drew HC7.out) (fun x cs h => by rw [k82_open h]; exact k82_mkM _ _ _ x) (fun _ h => h.elim) (fun _ _ => trivial) (Below.refl _ _) HD7.out.b.size ?aL ?_; (case aL => have := HKL.out; simp only [List.length_nil]; omega); intro v8 w8 ho hb hg hat; rw [List.nil_append] at ho; have hb8 := below_of_none hg rfl; have HO8 := Aside0.mk ho; have HB8 := Aside0.mk ((Below.refl _ w7).drew.trans hb8); have H8 := Aside0.mk (show ∀ q, v8.ownBlock = some q → w7.heap.size ≤ q from fun q hq => by rcases hat with e1 | ⟨b, e1, h1⟩; (rw [hq] at e1; cases e1); (rw [e1] at hq; injection hq with hq; exact hq ▸ h1)); obtain ⟨A10, c10, e10⟩ := Kd.R_slice HO8.out; subst e10; clear ho hb hg hat hb8; refine norm2_ (a' := ?na) ?ne ?nk; (case ne => (show Act.put _ (some 120) _ = _; simp only [Act.put, List.setIfInBounds_toArray, List.set_cons_zero, List.set_cons_succ]; rfl)))
              | (refine Kd.R_append_rows_step k82 (Rr := k82.K w8) (w0 := w8) (W := w8) w.heap.size rfl (.tmp 120) (.tmp 124) 69 82 (.agg #[.int .i64 0, .int .i64 0]) 16 rfl Try.underlying69 info82 rfl (by decide) (by decide) (.slice A10 l7.length c10) l7 l8 A8 l8.length c8 (fun _ => True) (fun _ => False) ?aV ?aX HO8.out (Kd.C_below HC8.out HB8.out) (fun x cs h => by rw [k82_open h]; exact k82_mkM _ _ _ x) (fun _ h => h.elim) (fun _ _ => trivial) (Below.refl _ _) ?aS ?aL ?_; (case aV => rfl); (case aX => rfl); (case aS => have := HD7.out.b.size; have := HB8.out.size; exact Nat.le_trans (Nat.le_trans HD7.out.b.size HB8.out.size) (Nat.le_refl _)); (case aL => have := HKL.out; have := HLT.out; omega); intro v10 w10 ho hb hg hat; have HO10 := Aside0.mk ho; have HG10 := Aside0.mk hg; have HB10 := Aside0.mk hb; have HAT10 := Aside0.mk hat; clear ho hb hg hat))
            rw [HSPL.out] at HO10
            go_wp2
            go_meet
            case rel => exact ⟨HD7.out.reout HB8.out H8.out HG10.out HAT10.out HO10.out HB10.out⟩
        case rest =>
          have HD8 := Aside0.mk hcut.out
          clear HD7 HC7 HC8 HLT HKL HSPL hc1 hc2 hw1 hw1' hi0
          obtain ⟨gs, hgs⟩ : ∃ y, gots ++ [(⟨f0, f1, d⟩ : S65)] = y := ⟨_, rfl⟩
          have hgl : gs.length = i + 1 := by rw [← hgs, List.length_append, HGL.out]; rfl
          obtain ⟨o1, ho1⟩ : ∃ y, out.eraseIdx k = y := ⟨_, rfl⟩
          rw [hgs] at HD8 HPN H2 ⊢
          rw [ho1] at HD8 HJO
          have hnl : n.length = gs.length + 1 := by rw [HNL.out, hgl, HGL.out]
          have hla : rd_T71 n (gs.length : Int) = last := by rw [← HLAST.out, hgl, HGL.out]
          have HGS := Aside0.mk hgl
          have HNL2 := Aside0.mk hnl
          have HLA := Aside0.mk hla
          have HB1O := Aside0.mk (show ∀ q, q ∈ o1 → bOK q from fun q hq => HBO.out q (by rw [← ho1] at hq; exact List.mem_of_mem_eraseIdx hq))
          have HO1L := Aside0.mk (show o1.length ≤ 6 by rw [← ho1, List.length_eraseIdx]; have := HL16.out; split <;> omega)
          clear HBO hgs hgl ho1 hnl hla HNL HLAST HGL HX HK HWV HDA HBW
          have hgi : gs.length ≤ 300 := by have := HGS.out; have := HIM.out; omega
          have hw4 : IntKind.i64.wrap ((gs.length : Int) + 1) = (gs.length : Int) + 1 := by simp only [i64_w]; unfold wrap64; omega
          have hnl2 : (n.length : Int) = (gs.length : Int) + 1 := by have := HNL2.out; omega
          have hw5 : IntKind.i64.wrap ((gs.length : Int) + 1 - 1) = (gs.length : Int) := by simp only [i64_w]; unfold wrap64; omega
          go_upto_region 27 with (first
            | ((with_reducible refine gate_builtin (b := .append) (xs := #[.const (.slice none 0 0), .tmp 127]) rfl ?_); at_builtin; refine Kd.N_append_rows k65 (w0 := wc) (W := wc) w.heap.size rfl (.const (.slice none 0 0)) (.tmp 127) 63 65 (.agg #[.int .i64 0, .int .i64 0, .slice none 0 0]) 40 rfl Try.underlying63 info65 rfl (by decide) (by decide) (.slice none 0 0) [] gs A7 gs.length c7' (fun _ => True) (fun q => some q ≠ (u9 : Value).ownBlock) rfl rfl (Kd.N_nil _ _ _ _ _) (Kd.N_F HD8.out.g) (fun q _ => ⟨trivial, by simp [Value.ownBlock]⟩) (fun _ _ => trivial) (Below.refl _ _) HD8.out.b.size ?aL ?_; (case aL => simp only [List.length_nil]; omega); intro v8 w8 ho hb hg hat; rw [List.nil_append] at ho; have hb8 := below_of_none hg rfl; obtain ⟨A11, c11, e11⟩ := Kd.N_slice ho; subst e11; have HO8 := Aside0.mk ho; have HB8 := Aside0.mk hb8; clear ho hb hg hat hb8)
            | ((with_reducible refine gate_callee (f := 29) rfl ?_); refine goesL_ _ rfl rfl Try.func29 (by kernel_rfl) rfl #[.slice A11 gs.length c11] rfl (by (try simp only [List.map_toArray, List.map_cons, List.map_nil]); first | done | rfl) ?_; refine (fetch_Play.calls A11 c11 gs n 0 w8 (Kd.N_reads' HO8.out).2.2 (Kd.N_reads' HO8.out).2.1 HPN.out).mono ?_; rintro e w9 ⟨v9, rfl, ho, hb⟩; refine ⟨_, rfl, ?_⟩; obtain ⟨An, cn, en⟩ := Kd.S_slice ho; subst en; have HO9 := Aside0.mk ho; have HB9 := Aside0.mk (HB8.out.trans (hb.mono HB8.out.size)); clear ho hb))
          have hnp : 0 < n.length := by have := HNL2.out; omega
          rcases An with _ | adn
          · obtain ⟨g9, cap9, e9, _⟩ := Kd.S_form HO9.out hnp
            cases e9
          obtain ⟨cs, hcl, hM, hcc⟩ := Kd.R_getA (Kd.S_R HO9.out) z71 (gs.length : Int) (by omega) (by omega)
          replace hM : k71.M w9 w8.heap.size (fun q => (True ∧ some q ≠ (Value.slice (some adn) n.length cn).ownBlock)) (rd_T71 n (gs.length : Int)) cs := hM
          rw [HLA.out] at hM
          replace hcc : ∀ j u, cs[j]? = some u → w9.cell? (adn.add ((gs.length : Int).toNat * 4 + j)) = some u := hcc
          rw [Int.toNat_natCast] at hcc
          obtain ⟨lc, ws, lb, nd'⟩ := last
          obtain rfl : lc = 0 := HL0.out
          obtain ⟨v1, v3, rfl, hR1, hR3⟩ := k71_openM hM
          dsimp only at hR1 hR3
          obtain ⟨Aw, cw, e1⟩ := Kd.R_slice hR1
          obtain ⟨Ad, cd, e3⟩ := Kd.R_slice hR3
          subst e1 e3
          have g0 : w9.cell? (adn.add (gs.length * 4)) = some (.int .i64 0) := hcc 0 _ rfl
          have g1 : w9.cell? ⟨(adn.add (gs.length * 4)).block, (adn.add (gs.length * 4)).off + 1, none⟩ = some (.slice Aw ws.length cw) := by rw [← add_field _ _ 1 (by omega)]; exact hcc 1 _ rfl
          have g2 : w9.cell? ⟨(adn.add (gs.length * 4)).block, (adn.add (gs.length * 4)).off + 2, none⟩ = some (.bool lb) := by rw [← add_field _ _ 2 (by omega)]; exact hcc 2 _ rfl
          have g3 : w9.cell? ⟨(adn.add (gs.length * 4)).block, (adn.add (gs.length * 4)).off + 3, none⟩ = some (.slice Ad nd'.length cd) := by rw [← add_field _ _ 3 (by omega)]; exact hcc 3 _ rfl
          have HR1' := Aside0.mk hR1
          have HR3' := Aside0.mk hR3
          have hkn : ((n.length : Int) != (gs.length : Int) + 1) = false := bne_eq_false_iff_eq.2 (by omega)
          clear hcl hM hcc hR1 hR3 hnp
          have hgi2 : (gs.length : Int) < (n.length : Int) := by omega
          go_upto_region 29 with (fail)
          have hw6 : IntKind.i64.wrap ((n.length : Int) - 1) = (gs.length : Int) := by simp only [i64_w]; unfold wrap64; omega
          have hw6' : wrap64 ((n.length : Int) - 1) = (gs.length : Int) := by unfold wrap64; omega
          clear hw4 hw5 hkn
          go_upto_region 30 with (fail)
          have hT := blk_new w9 (Obj.cells #[.int .i64 0, .slice Aw ws.length cw, .bool lb, .slice Ad nd'.length cd] 71)
          obtain ⟨w10, hw10⟩ : ∃ y, w9.alloc (Obj.cells #[.int .i64 0, .slice Aw ws.length cw, .bool lb, .slice Ad nd'.length cd] 71) = y := ⟨_, rfl⟩
          have hb10 : Below w9.heap.size w9 w10 := by rw [← hw10]; exact below_alloc (Below.refl _ _) _
          rw [hw10] at hT ⊢
          obtain ⟨gb, hgb⟩ : ∃ y, w9.heap.size = y := ⟨_, rfl⟩
          rw [hgb] at hT ⊢
          have hD10 := (HD8.out.below HB9.out).below hb10
          have hwc8 : wc.heap.size ≤ w8.heap.size := HB8.out.size
          have hJR : JR w w10 gb (.slice A7 gs.length c7') u9 (.slice Aw ws.length cw) (.slice Ad nd'.length cd) gs o1 ws lb nd' :=
            ⟨hD10, R82_re (Kd.R_lower (Kd.R_below HR1'.out hb10) (Nat.le_trans HD8.out.b.size hwc8)) (fun q hq e => by have h1 := Kd.R_base HR1'.out q hq; have h2 := Kd.R_lt HD8.out.o q e.symm; omega), R5_re (Kd.R_lower (Kd.R_below HR3'.out hb10) (Nat.le_trans HD8.out.b.size hwc8)) (fun _ _ => trivial), hT⟩
          have HJR := Aside0.mk hJR
          have t0 : w10.cell? ⟨gb, 0, none⟩ = some (.int .i64 0) := (blk_cell hT 0).trans rfl
          obtain ⟨A9', c9', e9⟩ := Kd.R_slice HD8.out.o
          subst e9
          clear hw10 hb10 hgb hD10 hwc8 hJR hT HR1' HR3' HO9 HB9 HO8 HB8 HD8 g0 g1 g2 g3 hw6 hw6' hgi2 HNL2 HLA HPN HL0 hnl2 hgi HL16
          go_wp2
          go_loopw [9, 17] (fun v9 v17 wr => ∃ (j : Nat) (o : List S82), j ≤ ws.length ∧ v17 = .int .i64 (j : Int) ∧ Aside0 (joinF (ws.drop j) o = some o2) ∧ Aside0 (o.length ≤ 6 + j) ∧ Aside0 (∀ q, q ∈ o → bOK q) ∧ Aside0 (JR w wr gb (.slice A7 gs.length c7') v9 (.slice Aw ws.length cw) (.slice Ad nd'.length cd) gs o ws lb nd')) (fun _ v17 _ => ws.length - (intOf v17).toNat)
          case atStart => exact ⟨0, o1, Nat.zero_le _, rfl, ⟨by rw [List.drop_zero]; exact HJO.out⟩, ⟨HO1L.out⟩, HB1O, HJR⟩
          case round =>
            clear HJR HJO HO1L HB1O t0
            obtain ⟨j, o, hj, rfl, HJ, HOL, HBO, HJR⟩ := hrel
            obtain ⟨wq, hwq⟩ : ∃ wo : World, wo = wr := ⟨_, rfl⟩
            subst hwq
            obtain ⟨A9q, c9q, e9q⟩ := Kd.R_slice HJR.out.d.o
            subst e9q
            have hblk := HJR.out.blk
            have t0 : wq.cell? ⟨gb, 0, none⟩ = some (.int .i64 0) := (blk_cell hblk 0).trans rfl
            have t1 : wq.cell? ⟨gb, 1, none⟩ = some (.slice Aw ws.length cw) := (blk_cell hblk 1).trans rfl
            have t2 : wq.cell? ⟨gb, 2, none⟩ = some (.bool lb) := (blk_cell hblk 2).trans rfl
            have t3 : wq.cell? ⟨gb, 3, none⟩ = some (.slice Ad nd'.length cd) := (blk_cell hblk 3).trans rfl
            clear hblk
            by_cases k0 : j < ws.length
            · have k0b : decide (j < ws.length) = true := decide_eq_true k0
              have k0i : decide ((j : Int) < (ws.length : Int)) = true := decide_eq_true (by omega)
              have k0j : (j : Int) < (ws.length : Int) := by omega
              have hjl : j ≤ 100 := by have h9 : ws.length ≤ 100 := HL100.out; omega
              obtain ⟨⟨a0, a1⟩, hwv⟩ : ∃ y, rd_T82 ws (j : Int) = y := ⟨_, rfl⟩
              have hwj : ws.drop j = ⟨a0, a1⟩ :: ws.drop (j + 1) := by
                rw [List.drop_eq_getElem_cons k0]
                congr 1
                rw [← hwv, rd_T82, Int.toNat_natCast, List.getD_eq_getElem?_getD, List.getElem?_eq_getElem k0]
                rfl
              have hj9 := HJ.out
              rw [hwj, joinF] at hj9
              by_cases hck : bOK ⟨a0, a1⟩ ∧ (o.any fun q => meetsB ⟨a0, a1⟩ q) = false
              case neg => rw [if_neg hck] at hj9; cases hj9
              rw [if_pos hck] at hj9
              have HBA := Aside0.mk hck.1
              have HANY := Aside0.mk (List.any_eq_false.1 hck.2)
              have HJ2 := Aside0.mk hj9
              have HWV := Aside0.mk hwv
              clear hck hj9 hwj hwv HJ
              go_wp2
              go_loopw [18] (fun v18 wr => ∃ (q : Nat), q ≤ o.length ∧ v18 = .int .i64 (q : Int) ∧ Aside0 (JR w wr gb (.slice A7 gs.length c7') (.slice A9q o.length c9q) (.slice Aw ws.length cw) (.slice Ad nd'.length cd) gs o ws lb nd')) (fun v18 _ => o.length - (intOf v18).toNat)
              case atStart => exact ⟨0, Nat.zero_le _, rfl, HJR⟩
              case round =>
                clear HJR t0 t1 t2 t3
                obtain ⟨q, hq, rfl, HJR⟩ := hrel
                obtain ⟨wq2, hwq2⟩ : ∃ wo : World, wo = wr := ⟨_, rfl⟩
                subst hwq2
                have hblk := HJR.out.blk
                have t1 : wq2.cell? ⟨gb, 1, none⟩ = some (.slice Aw ws.length cw) := (blk_cell hblk 1).trans rfl
                clear hblk
                by_cases q0 : q < o.length
                · have q0b : decide (q < o.length) = true := decide_eq_true q0
                  have q0i : decide ((q : Int) < (o.length : Int)) = true := decide_eq_true (by omega)
                  have q0j : (q : Int) < (o.length : Int) := by omega
                  obtain ⟨adw, rfl, x0, x1⟩ := at_T82 (Kd.R_reads' HJR.out.r1).2.2 (j : Int) (by omega) k0j
                  obtain ⟨ado, rfl, y0, y1⟩ := at_T82 (Kd.R_reads' HJR.out.d.o).2.2 (q : Int) (by omega) q0j
                  rw [Int.toNat_natCast, HWV.out] at x0 x1
                  rw [Int.toNat_natCast] at y0 y1
                  dsimp only at x0 x1
                  obtain ⟨⟨b0, b1⟩, hwb⟩ : ∃ y, rd_T82 o (q : Int) = y := ⟨_, rfl⟩
                  rw [hwb] at y0 y1
                  dsimp only at y0 y1
                  have hmem : (⟨b0, b1⟩ : S82) ∈ o := by
                    rw [← hwb, rd_T82, Int.toNat_natCast, List.getD_eq_getElem?_getD, List.getElem?_eq_getElem q0]
                    exact List.getElem_mem q0
                  have hmt : (decide (a0 < b0 + b1) && decide (b0 < a0 + a1)) = false := by
                    have h9 := HANY.out _ hmem
                    unfold meetsB at h9
                    dsimp only at h9
                    exact Bool.eq_false_iff.2 h9
                  have hbb := HBO.out _ hmem
                  have hba := HBA.out
                  unfold bOK at hbb hba
                  dsimp only at hbb hba
                  have hv1 : IntKind.i64.wrap (b0 + b1) = b0 + b1 := by simp only [i64_w]; unfold wrap64; omega
                  have hv2 : IntKind.i64.wrap (a0 + a1) = a0 + a1 := by simp only [i64_w]; unfold wrap64; omega
                  have hv3 : IntKind.i64.wrap ((q : Int) + 1) = (q : Int) + 1 := by have := HOL.out; simp only [i64_w]; unfold wrap64; omega
                  clear hbb hba hwb hmem
                  go_upto_region 38 with (fail)
                  by_cases ca : a0 < b0 + b1
                  · have ca1 : decide (a0 < b0 + b1) = true := decide_eq_true ca
                    have cb1 : decide (b0 < a0 + a1) = false := by rw [ca1, Bool.true_and] at hmt; exact hmt
                    have cb : ¬ b0 < a0 + a1 := of_decide_eq_false cb1
                    clear hmt
                    go_quiet (fail)
                    have hbq : Below wq2.heap.size wq2 (wq2.drewN nq) := pw_below_drewN (Below.refl _ _) _
                    have HJ3 := Aside0.mk (HJR.out.below hbq)
                    clear hbq
                    go_wp2
                    exact ⟨⟨q + 1, by omega, by go_num, HJ3⟩, by simp [intOf]; omega⟩
                  · have ca1 : decide (a0 < b0 + b1) = false := decide_eq_false ca
                    clear hmt
                    go_quiet (fail)
                    have hbq : Below wq2.heap.size wq2 (wq2.drewN nq) := pw_below_drewN (Below.refl _ _) _
                    have HJ3 := Aside0.mk (HJR.out.below hbq)
                    clear hbq
                    go_wp2
                    exact ⟨⟨q + 1, by omega, by go_num, HJ3⟩, by simp [intOf]; omega⟩
                · have q0b : decide (q < o.length) = false := decide_eq_false q0
                  have q0i : decide ((q : Int) < (o.length : Int)) = false := decide_eq_false (by omega)
                  obtain ⟨adw, rfl, x0, x1⟩ := at_T82 (Kd.R_reads' HJR.out.r1).2.2 (j : Int) (by omega) k0j
                  rw [Int.toNat_natCast, HWV.out] at x0 x1
                  dsimp only at x0 x1
                  have hol := HOL.out
                  have hw9 : IntKind.i64.wrap ((j : Int) + 1) = (j : Int) + 1 := by simp only [i64_w]; unfold wrap64; omega
                  have HLA2 := Aside0.mk (show (o.length + 1) * 16 ≤ 140737488355328 by omega)
                  clear hol
                  go_wp2_with (first
                    | ((with_reducible refine gate_builtin (b := .append) (xs := #[.tmp 203, .tmp 209]) rfl ?_); at_builtin; refine Kd.R_append k82 (w0 := wq2) (W := wq2) w.heap.size rfl (.tmp 203) (.tmp 209) 69 82 (.agg #[.int .i64 0, .int .i64 0]) 16 rfl Try.underlying69 info82 rfl (by decide) (by decide) (.slice A9q o.length c9q) o (⟨a0, a1⟩ : S82) [.int .i64 a0, .int .i64 a1] (fun _ => True) (fun _ => False) rfl rfl (k82_mkM _ _ _ (⟨a0, a1⟩ : S82)) (fun _ hk => hk.elim) (fun _ _ => trivial) HJR.out.d.o (Below.refl _ _) HJR.out.d.b.size HLA2.out ?_; intro v20 w20 ho hb hg hat; have HO20 := Aside0.mk ho; have HJ4 := Aside0.mk (HJR.out.app hg hat ho hb); clear ho hb hg hat))
                  refine ⟨⟨j + 1, o ++ [⟨a0, a1⟩], by omega, by go_num, HJ2, ⟨?_⟩, ⟨?_⟩, HJ4⟩, by simp [intOf]; omega⟩
                  · have := HOL.out
                    rw [List.length_append]
                    simp
                    omega
                  · intro e he
                    rcases List.mem_append.1 he with he | he
                    · exact HBO.out e he
                    · rw [List.mem_singleton] at he
                      rw [he]
                      exact HBA.out
            · have k0b : decide (j < ws.length) = false := decide_eq_false k0
              have k0i : decide ((j : Int) < (ws.length : Int)) = false := decide_eq_false (by omega)
              have hj9 := HJ.out
              rw [List.drop_eq_nil_of_le (by omega), joinF] at hj9
              injection hj9 with hj9
              subst hj9
              have h2 := H2.out
              have hw10 : IntKind.i64.wrap ((i : Int) + 1) = (i : Int) + 1 := by have := HIM.out; simp only [i64_w]; unfold wrap64; omega
              clear HJ
              cases lb with
              | true =>
                rw [if_pos rfl] at h2
                injection h2 with h2
                subst h2
                go_wp2
                go_ret2
                exact ⟨_, rfl, HJR.out.r3, HJR.out.d.b⟩
              | false =>
                rw [if_neg (by simp)] at h2
                have H3 := Aside0.mk h2
                have him := HIM.out
                clear h2 H2
                go_wp2
                exact ⟨⟨i + 1, m, gs, o, by omega, by go_num, H3, HGS, ⟨HJR.out.d⟩⟩, by simp [intOf]; omega⟩
theorem packthreadkeep_fetched.calls (A0 : Option Addr) (c0 : Nat) (l0 : List Int) (A1 : Option Addr) (c1 : Nat) (l1 : List Int) (r1 : List Int) (r2 : Bool) (w : World) (hr0 : Kd.C (Kd.int .u8) w A0 l0.length l0) (hc0 : l0.length ≤ c0) (hr1 : Kd.C (Kd.int .i64) w A1 l1.length l1) (hc1 : l1.length ≤ c1) (h : packthreadkeep_fetched.f l0 l1 = some (r1, r2)) :
    Calls Try.prog 27 #[.slice A0 l0.length c0, .slice A1 l1.length c1] w fun e w' => ∃ v0_ : Value, e = .returned (.tuple #[v0_, .bool r2]) ∧ Kd.R (Kd.int .u8) 5 w' w.heap.size (fun _ => True) v0_ r1 ∧ Below w.heap.size w w' := by
  unfold packthreadkeep_fetched.f at h
  by_cases c : l0.length ≤ 100000
  · rw [if_pos c] at h
    rcases hr : runF l0 l1 280 0 [] wants0 with _ | r
    · rw [hr] at h; cases h
    · rw [hr] at h
      simp only [Option.map_some, Option.some.injEq, Prod.mk.injEq] at h
      obtain ⟨rfl, rfl⟩ := h
      exact fetched_calls A0 c0 l0 A1 c1 l1 r w hr0 hc0 hr1 hc1 c hr
  · rw [if_neg c] at h; cases h

/-! ### packthreadkeep_sameBytes: function 28 -/
def packthreadkeep_sameBytes.l0 : Nat → List Int → List Int → Int → Option (Bool)
  | 0, _, _, _ => none
  | k + 1, x0, x1, x5 => if x5 < (x0.length : Int) then (if 0 ≤ x5 then (if x5 < (x1.length : Int) then (if (rd x0 x5) = (rd x1 x5) then (packthreadkeep_sameBytes.l0 k x0 x1 (wrap64 (x5 + 1))) else (some false)) else (none)) else (none)) else (some true)
def packthreadkeep_sameBytes.f (k : Nat) (l0 : List Int) (l1 : List Int) : Option (Bool) := if (l0.length : Int) = (l1.length : Int) then (packthreadkeep_sameBytes.l0 k l0 l1 0) else (some false)
theorem packthreadkeep_sameBytes.mono_l : ∀ k, (∀ y0 y1 y2, LeO (packthreadkeep_sameBytes.l0 k y0 y1 y2) (packthreadkeep_sameBytes.l0 (k + 1) y0 y1 y2))
  | 0 => fun _ _ _ r h => by simp [packthreadkeep_sameBytes.l0] at h
  | k + 1 => by
    have ih0 := packthreadkeep_sameBytes.mono_l k
    · intro y0 y1 y2
      unfold packthreadkeep_sameBytes.l0
      repeat' first
      | (with_reducible exact ih0 _ _ _)
      | (with_reducible exact LeO.refl _)
      | (with_reducible exact LeO.none _)
      | (with_reducible refine LeO.ite ?_ ?_)
      | (with_reducible refine LeO.bind ?_ (fun _ => ?_))
      | exact ih0 _ _ _
      | exact LeO.none _
      | refine LeO.ite ?_ ?_
      | refine LeO.bind ?_ (fun _ => ?_)
theorem packthreadkeep_sameBytes.mono : ∀ a0 a1 k, LeO (packthreadkeep_sameBytes.f k a0 a1) (packthreadkeep_sameBytes.f (k + 1) a0 a1) := by
  intro a0 a1 k
  have ih0 := packthreadkeep_sameBytes.mono_l k
  unfold packthreadkeep_sameBytes.f
  repeat' first
      | (with_reducible exact ih0 _ _ _)
      | (with_reducible exact LeO.refl _)
      | (with_reducible exact LeO.none _)
      | (with_reducible refine LeO.ite ?_ ?_)
      | (with_reducible refine LeO.bind ?_ (fun _ => ?_))
      | exact ih0 _ _ _
      | exact LeO.none _
      | refine LeO.ite ?_ ?_
      | refine LeO.bind ?_ (fun _ => ?_)
set_option maxHeartbeats 8000000 in
set_option maxRecDepth 100000 in
theorem packthreadkeep_sameBytes.calls (k : Nat) (A0 : Option Addr) (c0 : Nat) (l0 : List Int) (A1 : Option Addr) (c1 : Nat) (l1 : List Int) (r : Bool) (w : World) (hr0 : Kd.C (Kd.int .u8) w A0 l0.length l0) (hc0 : l0.length ≤ c0) (hr1 : Kd.C (Kd.int .u8) w A1 l1.length l1) (hc1 : l1.length ≤ c1) (h : packthreadkeep_sameBytes.f k l0 l1 = some r) :
    Calls Try.prog 28 #[.slice A0 l0.length c0, .slice A1 l1.length c1] w fun e w' => e = .returned (.bool r) ∧ Drawn0 w w' := by
  have HR0 := Aside0.mk hr0
  have HC0 := Aside0.mk hc0
  clear hr0 hc0
  have HR1 := Aside0.mk hr1
  have HC1 := Aside0.mk hc1
  clear hr1 hc1
  have H : (if (l0.length : Int) = (l1.length : Int) then (packthreadkeep_sameBytes.l0 k l0 l1 0) else (some false)) = some r := h
  clear h
  by_cases c3 : (l0.length : Int) = (l1.length : Int)
  · rw [if_pos c3] at H
    have c3b0 : ((l0.length : Int) == (l1.length : Int)) = true := beq_iff_eq.mpr c3
    have c3b1 : ((l0.length : Int) != (l1.length : Int)) = false := bne_eq_false_iff_eq.mpr c3
    have c3b2 : (l0.length == l1.length) = true := by first | simpa using c3 | (simp at c3 ⊢; omega)
    clear c3
    have H' := Aside0.mk H
    clear H
    go_enter Try.func28, Try.ntmps28
    go_wp2
    repeat (go_quiet (fail); try go_wp2)
    go_loopg [5] k (fun kq v5 w' => ∃ (x5_1 : Int), v5 = .int .i64 x5_1 ∧ Aside0 (packthreadkeep_sameBytes.l0 kq l0 l1 x5_1 = some r) ∧ Aside0 (kq ≤ k) ∧ Drawn0 w w')
    case atStart => exact ⟨(0), (by first | rfl | (simp; done) | (simp [*]; done)), H', ⟨Nat.le_refl _⟩, by repeat (first | exact Drawn0.refl _ | apply Drawn0.step)⟩
    case round =>
      clear H'
      try clear c1
      try clear c2
      try clear p2
      try clear c3
      try clear c3b0
      try clear c3b1
      try clear c3b2
      obtain ⟨x5_1, rfl, HA, HK1, ⟨m1, rfl⟩⟩ := hrel
      cases gk with
      | zero => exact absurd HA.out (by simp [packthreadkeep_sameBytes.l0])
      | succ k1 =>
        have H := HA.out
        clear HA
        simp only [packthreadkeep_sameBytes.l0] at H
        by_cases c4 : x5_1 < (l0.length : Int)
        · rw [if_pos c4] at H
          have c4b0 : decide (x5_1 < (l0.length : Int)) = true := decide_eq_true c4
          clear c4
          by_cases c5 : 0 ≤ x5_1
          · rw [if_pos c5] at H
            have c5b0 : decide (0 ≤ x5_1) = true := decide_eq_true c5
            clear c5
            by_cases c6 : x5_1 < (l1.length : Int)
            · rw [if_pos c6] at H
              have c6b0 : decide (x5_1 < (l1.length : Int)) = true := decide_eq_true c6
              clear c6
              by_cases c7 : (rd l0 x5_1) = (rd l1 x5_1)
              · rw [if_pos c7] at H
                have c7b0 : ((rd l0 x5_1) == (rd l1 x5_1)) = true := beq_iff_eq.mpr c7
                have c7b1 : ((rd l0 x5_1) != (rd l1 x5_1)) = false := bne_eq_false_iff_eq.mpr c7
                clear c7
                have H' := Aside0.mk H
                clear H
                have p118 : 0 ≤ (x5_1 : Int) := of_decide_eq_true (by first | (with_reducible assumption) | assumption)
                have q118 : x5_1 < (l0.length : Int) := of_decide_eq_true (by first | (with_reducible assumption) | assumption)
                obtain ⟨ad118, e118, hx118_0⟩ := Kd.at_int HR0.out x5_1 p118 q118
                cases e118
                replace p118 := eq_true p118
                replace q118 := eq_true q118
                have p119 : 0 ≤ (x5_1 : Int) := of_decide_eq_true (by first | (with_reducible assumption) | assumption)
                have q119 : x5_1 < (l1.length : Int) := of_decide_eq_true (by first | (with_reducible assumption) | assumption)
                obtain ⟨ad119, e119, hx119_0⟩ := Kd.at_int HR1.out x5_1 p119 q119
                cases e119
                replace p119 := eq_true p119
                replace q119 := eq_true q119
                go_wp2
                repeat (go_quiet (fail); try go_wp2)
                go_roundg k1
                case measure => have := HK1.out; omega
                case rel => exact ⟨(wrap64 (x5_1 + 1)), (by first | rfl | (simp; done) | (simp [*]; done)), H', ⟨by have := HK1.out; omega⟩, by repeat (first | exact Drawn0.refl _ | apply Drawn0.step)⟩
              · rw [if_neg c7] at H
                have c7b0 : ((rd l0 x5_1) == (rd l1 x5_1)) = false := beq_eq_false_iff_ne.mpr c7
                have c7b1 : ((rd l0 x5_1) != (rd l1 x5_1)) = true := bne_iff_ne.mpr c7
                obtain rfl := Option.some.inj H
                have p118 : 0 ≤ (x5_1 : Int) := of_decide_eq_true (by first | (with_reducible assumption) | assumption)
                have q118 : x5_1 < (l0.length : Int) := of_decide_eq_true (by first | (with_reducible assumption) | assumption)
                obtain ⟨ad118, e118, hx118_0⟩ := Kd.at_int HR0.out x5_1 p118 q118
                cases e118
                replace p118 := eq_true p118
                replace q118 := eq_true q118
                have p119 : 0 ≤ (x5_1 : Int) := of_decide_eq_true (by first | (with_reducible assumption) | assumption)
                have q119 : x5_1 < (l1.length : Int) := of_decide_eq_true (by first | (with_reducible assumption) | assumption)
                obtain ⟨ad119, e119, hx119_0⟩ := Kd.at_int HR1.out x5_1 p119 q119
                cases e119
                replace p119 := eq_true p119
                replace q119 := eq_true q119
                go_wp2
                repeat (go_quiet (fail); try go_wp2)
                go_ret
                exact ⟨by first | rfl | (simp; done) | (simp [*]; done), by repeat (first | exact Drawn0.refl _ | apply Drawn0.step)⟩
            · rw [if_neg c6] at H
              exact absurd H (by simp)
          · rw [if_neg c5] at H
            exact absurd H (by simp)
        · rw [if_neg c4] at H
          have c4b0 : decide (x5_1 < (l0.length : Int)) = false := decide_eq_false c4
          clear c4
          obtain rfl := Option.some.inj H
          go_wp2
          repeat (go_quiet (fail); try go_wp2)
          go_ret
          exact ⟨by first | rfl | (simp; done) | (simp [*]; done), by repeat (first | exact Drawn0.refl _ | apply Drawn0.step)⟩
  · rw [if_neg c3] at H
    have c3b0 : ((l0.length : Int) == (l1.length : Int)) = false := beq_eq_false_iff_ne.mpr c3
    have c3b1 : ((l0.length : Int) != (l1.length : Int)) = true := bne_iff_ne.mpr c3
    have c3b2 : (l0.length == l1.length) = false := by first | simpa using c3 | (simp at c3 ⊢; omega)
    obtain rfl := Option.some.inj H
    go_enter Try.func28, Try.ntmps28
    go_wp2
    repeat (go_quiet (fail); try go_wp2)
    go_ret
    exact ⟨by first | rfl | (simp; done) | (simp [*]; done), by repeat (first | exact Drawn0.refl _ | apply Drawn0.step)⟩

/-! ### packthreadkeep_FetchAll: function 12 -/
def packthreadkeep_FetchAll.f (k : Nat) (a0 : Int) (a1 : Int) (l2 : List Int) : Option (Bool) := (packthreadkeep_Picked.f a1 900).bind fun t120 => ((packthreadkeep_Stream.f k a0 t120).bind fun t121 => ((packthreadkeep_fetched.f t121 l2).bind fun bt124 => (if bt124.2 = true then ((packthreadkeep_sameBytes.f k bt124.1 t121).bind fun t128 => (some t128)) else (some false))))
theorem packthreadkeep_FetchAll.mono : ∀ a0 a1 a2 k, LeO (packthreadkeep_FetchAll.f k a0 a1 a2) (packthreadkeep_FetchAll.f (k + 1) a0 a1 a2) := by
  intro a0 a1 a2 k
  unfold packthreadkeep_FetchAll.f
  repeat' first
      | (with_reducible exact packthreadkeep_Stream.mono _ _ _)
      | (with_reducible exact packthreadkeep_sameBytes.mono _ _ _)
      | (with_reducible exact LeO.refl _)
      | (with_reducible exact LeO.none _)
      | (with_reducible refine LeO.ite ?_ ?_)
      | (with_reducible refine LeO.bind ?_ (fun _ => ?_))
      | exact packthreadkeep_Stream.mono _ _ _
      | exact packthreadkeep_sameBytes.mono _ _ _
      | exact LeO.none _
      | refine LeO.ite ?_ ?_
      | refine LeO.bind ?_ (fun _ => ?_)
set_option maxHeartbeats 8000000 in
set_option maxRecDepth 100000 in
theorem packthreadkeep_FetchAll.calls (k : Nat) (a0 : Int) (a1 : Int) (A2 : Option Addr) (c2 : Nat) (l2 : List Int) (r : Bool) (w : World) (hr2 : Kd.C (Kd.int .i64) w A2 l2.length l2) (hc2 : l2.length ≤ c2) (h : packthreadkeep_FetchAll.f k a0 a1 l2 = some r) :
    Calls Try.prog 12 #[.int .i64 a0, .int .i64 a1, .slice A2 l2.length c2] w fun e w' => e = .returned (.bool r) ∧ Below w.heap.size w w' := by
  have HR2 := Aside0.mk hr2
  have HC2 := Aside0.mk hc2
  clear hr2 hc2
  have HB := Aside0.mk (Below.refl w.heap.size w)
  have H : ((packthreadkeep_Picked.f a1 900).bind fun t120 => ((packthreadkeep_Stream.f k a0 t120).bind fun t121 => ((packthreadkeep_fetched.f t121 l2).bind fun bt124 => (if bt124.2 = true then ((packthreadkeep_sameBytes.f k bt124.1 t121).bind fun t128 => (some t128)) else (some false))))) = some r := h
  clear h
  replace H := Option.bind_eq_some_iff.mp H
  obtain ⟨t120, A40, H⟩ := H
  replace H : ((packthreadkeep_Stream.f k a0 t120).bind fun t121 => ((packthreadkeep_fetched.f t121 l2).bind fun bt124 => (if bt124.2 = true then ((packthreadkeep_sameBytes.f k bt124.1 t121).bind fun t128 => (some t128)) else (some false)))) = some r := H
  have A4 := Aside0.mk A40
  clear A40
  replace H := Option.bind_eq_some_iff.mp H
  obtain ⟨t121, A50, H⟩ := H
  replace H : ((packthreadkeep_fetched.f t121 l2).bind fun bt124 => (if bt124.2 = true then ((packthreadkeep_sameBytes.f k bt124.1 t121).bind fun t128 => (some t128)) else (some false))) = some r := H
  have A5 := Aside0.mk A50
  clear A50
  replace H := Option.bind_eq_some_iff.mp H
  obtain ⟨⟨t124, t125⟩, A60, H⟩ := H
  replace H : (if t125 = true then ((packthreadkeep_sameBytes.f k t124 t121).bind fun t128 => (some t128)) else (some false)) = some r := H
  have A6 := Aside0.mk A60
  clear A60
  by_cases c7 : t125 = true
  · subst c7
    have H1 : ((packthreadkeep_sameBytes.f k t124 t121).bind fun t128 => (some t128)) = some r := by rw [if_pos rfl] at H; exact H
    clear H
    have H := H1
    clear H1
    replace H := Option.bind_eq_some_iff.mp H
    obtain ⟨t128, A80, H⟩ := H
    replace H : (some t128) = some r := H
    have A8 := Aside0.mk A80
    clear A80
    obtain rfl := Option.some.inj H
    go_enter Try.func12, Try.ntmps12
    go_wp2_with (first | ((with_reducible refine gate_callee (f := 14) rfl ?_); refine goesL_ (some 12) rfl rfl Try.func14 (by kernel_rfl) rfl #[.int .i64 a1, .int .i64 900] rfl (by (try simp only [List.map_toArray, List.map_cons, List.map_nil]); first | done | rfl | (simp only [List.length_drop, List.length_take]; rfl)) ?_; (with_reducible refine (packthreadkeep_Picked.calls a1 900 t120 _ A4.out).mono ?_); rintro e w' ⟨rfl, ⟨nd, rfl⟩⟩; refine ⟨_, rfl, ?_⟩) | ((with_reducible refine gate_callee (f := 26) rfl ?_); refine goesL_ (some 13) rfl rfl Try.func26 (by kernel_rfl) rfl #[.int .i64 a0, .int .i64 t120] rfl (by (try simp only [List.map_toArray, List.map_cons, List.map_nil]); first | done | rfl | (simp only [List.length_drop, List.length_take]; rfl)) ?_; (with_reducible refine (packthreadkeep_Stream.calls k a0 t120 t121 _ A5.out).mono ?_); rintro e w9 ⟨v122, rfl, ho0, hb⟩; refine ⟨_, rfl, ?_⟩; have n0_ := Aside0.mk (Kd.R_lower ho0 (below_size (by repeat (first | (with_reducible first | exact HB.out | apply below_alloc | apply pw_below_drewN | apply below_drew1) | exact HB.out)))); have n1_ := Aside0.mk (below_step (by repeat (first | (with_reducible first | exact HB.out | apply below_alloc | apply pw_below_drewN | apply below_drew1) | exact HB.out)) hb); clear HB; have HO123 := n0_; have HB := n1_; clear n0_ n1_; (try clear hb); (try clear hb2); (try clear hk); (try clear hi); (try clear ho0); obtain ⟨Ao10, co10, eo10⟩ := Kd.R_slice HO123.out; subst eo10) | ((with_reducible refine gate_callee (f := 27) rfl ?_); refine goesL_ (some 17) rfl rfl Try.func27 (by kernel_rfl) rfl #[.slice Ao10 t121.length co10, .slice A2 l2.length c2] rfl (by (try simp only [List.map_toArray, List.map_cons, List.map_nil]); first | done | rfl | (simp only [List.length_drop, List.length_take]; rfl)) ?_; (with_reducible refine (packthreadkeep_fetched.calls _ _ t121 _ _ l2 t124 true _ ?side1 ?side2 ?side3 ?side4 A6.out).mono ?_); (case side1 => repeat (first | exact (Kd.R_reads' HO123.out).2.2 | (with_reducible refine Kd.C_alloc ?_ _) | (with_reducible refine Kd.C_drewN ?_ _) | (with_reducible refine Kd.C_drew ?_))); (case side2 => exact (Kd.R_reads' HO123.out).2.1); (case side3 => repeat (first | exact (Kd.C_below HR2.out HB.out) | (with_reducible refine Kd.C_alloc ?_ _) | (with_reducible refine Kd.C_drewN ?_ _) | (with_reducible refine Kd.C_drew ?_))); (case side4 => exact HC2.out); rintro e w11 ⟨v126, rfl, ho0, hb⟩; refine ⟨_, rfl, ?_⟩; have n0_ := Aside0.mk (Kd.R_elder' (by (with_reducible repeat (first | apply Kd.R_alloc | apply Kd.R_drewN | apply Kd.R_drew)); exact HO123.out) (Kd.R_base ho0) hb); have n1_ := Aside0.mk (Kd.R_lower (Kd.R_new' ho0 (Kd.R_lt (by (with_reducible repeat (first | apply Kd.R_alloc | apply Kd.R_drewN | apply Kd.R_drew)); exact HO123.out))) (below_size (by repeat (first | (with_reducible first | exact HB.out | apply below_alloc | apply pw_below_drewN | apply below_drew1) | exact HB.out)))); have n2_ := Aside0.mk (below_step (by repeat (first | (with_reducible first | exact HB.out | apply below_alloc | apply pw_below_drewN | apply below_drew1) | exact HB.out)) hb); clear HO123; clear HB; have HO123 := n0_; have HO127 := n1_; have HB := n2_; clear n0_ n1_ n2_; (try clear hb); (try clear hb2); (try clear hk); (try clear hi); (try clear ho0); obtain ⟨Ao12, co12, eo12⟩ := Kd.R_slice HO127.out; subst eo12) | (go_at_call 28; (with_reducible refine (packthreadkeep_sameBytes.calls k _ _ t124 _ _ t121 t128 _ ?side1 ?side2 ?side3 ?side4 A8.out).mono ?_); (case side1 => repeat (first | exact (Kd.R_reads' HO127.out).2.2 | (with_reducible refine Kd.C_alloc ?_ _) | (with_reducible refine Kd.C_drewN ?_ _) | (with_reducible refine Kd.C_drew ?_))); (case side2 => exact (Kd.R_reads' HO127.out).2.1); (case side3 => repeat (first | exact (Kd.R_reads' HO123.out).2.2 | (with_reducible refine Kd.C_alloc ?_ _) | (with_reducible refine Kd.C_drewN ?_ _) | (with_reducible refine Kd.C_drew ?_))); (case side4 => exact (Kd.R_reads' HO123.out).2.1); rintro e w' ⟨rfl, ⟨nd, rfl⟩⟩))
    go_ret
    exact ⟨by first | rfl | (simp [errW_none, errW_some] <;> rfl) | (simp [*, errW_none, errW_some] <;> rfl), by repeat (first | (with_reducible first | exact HB.out | apply below_alloc | apply pw_below_drewN | apply below_drew1) | exact HB.out)⟩
  · replace c7 := Bool.eq_false_iff.mpr c7
    subst c7
    have H1 : (some false) = some r := by rw [if_neg (show ¬ (false = true) by decide)] at H; exact H
    clear H
    have H := H1
    clear H1
    obtain rfl := Option.some.inj H
    go_enter Try.func12, Try.ntmps12
    go_wp2_with (first | ((with_reducible refine gate_callee (f := 14) rfl ?_); refine goesL_ (some 12) rfl rfl Try.func14 (by kernel_rfl) rfl #[.int .i64 a1, .int .i64 900] rfl (by (try simp only [List.map_toArray, List.map_cons, List.map_nil]); first | done | rfl | (simp only [List.length_drop, List.length_take]; rfl)) ?_; (with_reducible refine (packthreadkeep_Picked.calls a1 900 t120 _ A4.out).mono ?_); rintro e w' ⟨rfl, ⟨nd, rfl⟩⟩; refine ⟨_, rfl, ?_⟩) | ((with_reducible refine gate_callee (f := 26) rfl ?_); refine goesL_ (some 13) rfl rfl Try.func26 (by kernel_rfl) rfl #[.int .i64 a0, .int .i64 t120] rfl (by (try simp only [List.map_toArray, List.map_cons, List.map_nil]); first | done | rfl | (simp only [List.length_drop, List.length_take]; rfl)) ?_; (with_reducible refine (packthreadkeep_Stream.calls k a0 t120 t121 _ A5.out).mono ?_); rintro e w13 ⟨v122, rfl, ho0, hb⟩; refine ⟨_, rfl, ?_⟩; have n0_ := Aside0.mk (Kd.R_lower ho0 (below_size (by repeat (first | (with_reducible first | exact HB.out | apply below_alloc | apply pw_below_drewN | apply below_drew1) | exact HB.out)))); have n1_ := Aside0.mk (below_step (by repeat (first | (with_reducible first | exact HB.out | apply below_alloc | apply pw_below_drewN | apply below_drew1) | exact HB.out)) hb); clear HB; have HO123 := n0_; have HB := n1_; clear n0_ n1_; (try clear hb); (try clear hb2); (try clear hk); (try clear hi); (try clear ho0); obtain ⟨Ao14, co14, eo14⟩ := Kd.R_slice HO123.out; subst eo14) | ((with_reducible refine gate_callee (f := 27) rfl ?_); refine goesL_ (some 17) rfl rfl Try.func27 (by kernel_rfl) rfl #[.slice Ao14 t121.length co14, .slice A2 l2.length c2] rfl (by (try simp only [List.map_toArray, List.map_cons, List.map_nil]); first | done | rfl | (simp only [List.length_drop, List.length_take]; rfl)) ?_; (with_reducible refine (packthreadkeep_fetched.calls _ _ t121 _ _ l2 t124 false _ ?side1 ?side2 ?side3 ?side4 A6.out).mono ?_); (case side1 => repeat (first | exact (Kd.R_reads' HO123.out).2.2 | (with_reducible refine Kd.C_alloc ?_ _) | (with_reducible refine Kd.C_drewN ?_ _) | (with_reducible refine Kd.C_drew ?_))); (case side2 => exact (Kd.R_reads' HO123.out).2.1); (case side3 => repeat (first | exact (Kd.C_below HR2.out HB.out) | (with_reducible refine Kd.C_alloc ?_ _) | (with_reducible refine Kd.C_drewN ?_ _) | (with_reducible refine Kd.C_drew ?_))); (case side4 => exact HC2.out); rintro e w15 ⟨v126, rfl, ho0, hb⟩; refine ⟨_, rfl, ?_⟩; have n0_ := Aside0.mk (Kd.R_elder' (by (with_reducible repeat (first | apply Kd.R_alloc | apply Kd.R_drewN | apply Kd.R_drew)); exact HO123.out) (Kd.R_base ho0) hb); have n1_ := Aside0.mk (Kd.R_lower (Kd.R_new' ho0 (Kd.R_lt (by (with_reducible repeat (first | apply Kd.R_alloc | apply Kd.R_drewN | apply Kd.R_drew)); exact HO123.out))) (below_size (by repeat (first | (with_reducible first | exact HB.out | apply below_alloc | apply pw_below_drewN | apply below_drew1) | exact HB.out)))); have n2_ := Aside0.mk (below_step (by repeat (first | (with_reducible first | exact HB.out | apply below_alloc | apply pw_below_drewN | apply below_drew1) | exact HB.out)) hb); clear HO123; clear HB; have HO123 := n0_; have HO127 := n1_; have HB := n2_; clear n0_ n1_ n2_; (try clear hb); (try clear hb2); (try clear hk); (try clear hi); (try clear ho0)))
    go_ret
    exact ⟨by first | rfl | (simp [errW_none, errW_some] <;> rfl) | (simp [*, errW_none, errW_some] <;> rfl), by repeat (first | (with_reducible first | exact HB.out | apply below_alloc | apply pw_below_drewN | apply below_drew1) | exact HB.out)⟩

/-- THE ONE PURE STATEMENT of packthreadkeep_FetchAll: yours. -/
def packthreadkeep_FetchAll.Pure : Prop := ∀ (a0 : Int) (a1 : Int) (l2 : List Int), (Lit.int .i64 a0).wf = true → (Lit.int .i64 a1).wf = true → l2.length ≤ maxLen → l2.length * 8 ≤ 140737488351232 → (∀ x ∈ l2, (Lit.int .i64 x).wf = true) → ∃ k, packthreadkeep_FetchAll.f k a0 a1 l2 = some true
theorem packthreadkeep_FetchAll.walk (P : packthreadkeep_FetchAll.Pure) (a0 : Int) (a1 : Int) (a2 : Option Addr) (len2 cap2 : Nat) (z2 : List Int) (w : World) (w0 : (Lit.int .i64 a0).wf = true) (w1 : (Lit.int .i64 a1).wf = true) (w2 : (a2 = none ∧ len2 = 0 ∧ cap2 = 0 ∧ z2 = []) ∨ ∃ x, a2 = some x ∧ len2 ≤ cap2 ∧ cap2 ≤ maxLen ∧ z2.length = cap2 ∧ (∀ i, i < z2.length → w.cell? (x.add i) = some (.int .i64 (z2.getD i 0))) ∧ ∀ n ∈ z2, (Lit.int .i64 n).wf = true) (y2 : len2 * 8 ≤ 140737488351232) :
    Calls Try.prog 12 #[.int .i64 a0, .int .i64 a1, .slice a2 len2 cap2] w fun e w' => e = .returned (.bool true) ∧ Below w.heap.size w w' := by
  obtain ⟨l2, rfl, hr2, hm2, hw2, hc2⟩ := ReadsInt.ofRowC w2
  obtain ⟨k, h⟩ := P a0 a1 l2 w0 w1 hm2 y2 hw2
  refine (packthreadkeep_FetchAll.calls k a0 a1 _ _ l2 true w (Kd.C_of_reads (d := (0 : Int)) (h1 := fun _ => rfl) hr2) hc2 h).mono ?_
  rintro e w' ⟨rfl, hd⟩
  exact ⟨rfl, hd⟩

end Go.Proofs.Ytlgehakaedokeaa.PFetchAll
