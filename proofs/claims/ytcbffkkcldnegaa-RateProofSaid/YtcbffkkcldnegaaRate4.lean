/- Contracts of package gear: size, gcd. (With what follows it, in one text.) -/
import Derived.Test.YtcbffkkcldnegaaRate1
import Derived.Test.YtcbffkkcldnegaaRef2
import Derived.Test.YtcbffkkcldnegaaRef3
import Derived.Test.YtcbffkkcldnegaaLaw1
import Derived.Test.YtcbffkkcldnegaaRate3
set_option linter.unusedVariables false
set_option linter.unusedSimpArgs false
/- Contracts of package gear: size, gcd. -/
namespace Go.Proofs.Tb
open Go.RowKit
attribute [local go_sem] cell_set_same

theorem ret_u64 {a b : Int} (h : a = b) : Ending.returned (.int .u64 a) = .returned (.int .u64 b) := by rw [h]
theorem gsize_any (n : Int) (w : World) (h : -9223372036854775808 ≤ n) (h' : n ≤ 9223372036854775807) :
    Calls Try.prog 119 #[.int .i64 n] w fun e w' => e = .returned (.int .u64 (n.natAbs : Int)) ∧ w' = w := by
  by_cases h0 : n < 0
  · have d0 : decide (n < 0) = true := by simpa using h0
    have e1 : IntKind.u64.wrap n = n + 18446744073709551616 := by unfold IntKind.wrap; simp [IntKind.bits, IntKind.signed, IntKind.min, IntKind.max]; omega
    have e2 : IntKind.u64.wrap (-(n + 18446744073709551616)) = (n.natAbs : Int) := by unfold IntKind.wrap; simp [IntKind.bits, IntKind.signed, IntKind.min, IntKind.max]; omega
    have e3 : IntKind.u64.wrap (-n) = (n.natAbs : Int) := by unfold IntKind.wrap; simp [IntKind.bits, IntKind.signed, IntKind.min, IntKind.max]; omega
    go_enter Try.func119, Try.ntmps119
    go_wp2
    go_returns
    exact ⟨ret_u64 (by first | rfl | omega | (unfold wrap64 at *; omega)), rfl⟩
  · have d0 : decide (n < 0) = false := by simpa using h0
    have e1 : IntKind.u64.wrap n = (n.natAbs : Int) := by unfold IntKind.wrap; simp [IntKind.bits, IntKind.signed, IntKind.min, IntKind.max]; omega
    go_enter Try.func119, Try.ntmps119
    go_wp2
    go_returns
    exact ⟨ret_u64 (by first | rfl | omega | (unfold wrap64 at *; omega)), rfl⟩

set_option maxHeartbeats 800000 in
theorem ggcd_any (a b : Nat) (w : World) (ha : a < 18446744073709551616) (hb : b < 18446744073709551616) :
    Calls Try.prog 120 #[.int .u64 (a : Int), .int .u64 (b : Int)] w fun e w' => e = .returned (.int .u64 (Nat.gcd a b : Nat)) ∧ ∃ m, w' = w.drewN m := by
  obtain ⟨g, hg⟩ : ∃ g, Nat.gcd a b = g := ⟨_, rfl⟩
  rw [hg]
  have HG := Lib.hid hg
  clear hg
  go_enter Try.func120, Try.ntmps120
  go_wp2
  go_loopw [0, 1] (fun x y wr => ∃ a' b' : Nat, x = .int .u64 a' ∧ y = .int .u64 b' ∧ Nat.gcd a' b' = g ∧ a' < 18446744073709551616 ∧ b' < 18446744073709551616 ∧ ∃ m, wr = w.drewN m) (fun _ y _ => (intOf y).toNat)
  case atStart => exact ⟨a, b, rfl, rfl, HG.out, ha, hb, 0, rfl⟩
  case round =>
    obtain ⟨a', b', rfl, rfl, hg', ha', hb', m, rfl⟩ := hrel
    have HG' := Lib.hid hg'
    clear hg'
    by_cases h0 : 0 < b'
    · have e1 : (a' : Int) % (b' : Int) = ((a' % b' : Nat) : Int) := by simp
      have hlt := Nat.mod_lt a' h0
      obtain ⟨r, hr⟩ : ∃ r, a' % b' = r := ⟨_, rfl⟩
      have HN := Lib.hid (show Nat.gcd b' r = g by rw [← hr, Nat.gcd_comm, ← Nat.gcd_rec, Nat.gcd_comm]; exact HG'.out)
      rw [hr] at e1 hlt
      have hb0 : (b' : Int) ≠ 0 := by omega
      have HE := Lib.hid e1
      clear hr
      go_wp2
      go_quiet (fail)
      go_wp2
      go_roundw
      case rel => exact ⟨b', r, rfl, by first | rfl | rw [HE.out], HN.out, by omega, by omega, _, by first | rfl | exact World.drewN_drewN _ _ _⟩
      case measure => simp [intOf]; omega
    · have : b' = 0 := by omega
      subst this
      go_wp2
      go_returns
      exact ⟨ret_u64 (by have := HG'.out; simp at this; omega), m, rfl⟩
end Go.Proofs.Tb
/- Contracts of package gear: valid (of one fraction), Check. -/
namespace Go.Proofs.Tb
open Go.RowKit
attribute [local go_sem] cell_set_same
abbrev TFS : TypeId := 145

set_option maxHeartbeats 1600000 in
set_option maxRecDepth 100000 in
theorem gvalid1_any (xn xd : Int) (b : Nat) (w : World) (h1 : -9223372036854775808 ≤ xn) (h2 : xn ≤ 9223372036854775807) (h3 : -9223372036854775808 ≤ xd) (h4 : xd ≤ 9223372036854775807)
    (hc : w.cell? ⟨b, 0, none⟩ = some (.int .i64 xn) ∧ w.cell? ⟨b, 1, none⟩ = some (.int .i64 xd)) :
    Calls Try.prog 93 #[.slice (some ⟨b, 0, none⟩) 1 1] w (Ret (fun v _ => v = .bool (vF xn xd)) w) := by
  have HC := Lib.hid hc
  have hlt : b < w.heap.size := World.block_lt_of_cell? w _ hc.1
  obtain ⟨S, hS⟩ : ∃ S, xn.natAbs = S := ⟨_, rfl⟩
  obtain ⟨D, hD⟩ : ∃ D, xd.natAbs = D := ⟨_, rfl⟩
  obtain ⟨G, hG⟩ : ∃ G, Nat.gcd S D = G := ⟨_, rfl⟩
  have HSN : Hid (∀ W, Calls Try.prog 119 #[.int .i64 xn] W fun e w' => e = .returned (.int .u64 (S : Int)) ∧ w' = W) := fun W => by rw [← hS]; exact gsize_any xn W h1 h2
  have HSD : Hid (∀ W, Calls Try.prog 119 #[.int .i64 xd] W fun e w' => e = .returned (.int .u64 (D : Int)) ∧ w' = W) := fun W => by rw [← hD]; exact gsize_any xd W h3 h4
  have HGG : Hid (∀ W, Calls Try.prog 120 #[.int .u64 (S : Int), .int .u64 (D : Int)] W fun e w' => e = .returned (.int .u64 (G : Int)) ∧ ∃ m, w' = W.drewN m) := fun W => by rw [← hG]; exact ggcd_any S D W (by omega) (by omega)
  have HVF : Hid (VF xn xd ↔ (1 ≤ xd ∧ xd ≤ 4611686018427387904 ∧ S ≤ 4611686018427387904 ∧ G = 1)) := by
    have hg : Int.gcd xn xd = G := by rw [← hG, ← hS, ← hD]; rfl
    show VF xn xd ↔ _
    unfold VF
    rw [hg]
    constructor
    · intro h; refine ⟨h.1.1, h.1.2.1, ?_, h.2⟩; have := h.1; omega
    · intro h; refine ⟨⟨h.1, h.2.1, ?_, ?_⟩, h.2.2.2⟩ <;> omega
  clear hc hS hD hG
  go_enter Try.func93, Try.ntmps93
  go_wp2
  go_loopw [7] (fun i wr => ∃ k : Nat, k ≤ 1 ∧ (0 < k → VF xn xd) ∧ i = .int .i64 k ∧ Below w.heap.size w wr) (fun i _ => 1 - (intOf i).toNat)
  case atStart => exact ⟨0, by omega, fun h => absurd h (by omega), rfl, Below.refl _ _⟩
  case round =>
    obtain ⟨k, hk, hv, rfl, hbw⟩ := hrel
    have HV := Lib.hid hv
    clear hv
    by_cases hk0 : k = 0
    · subst hk0
      have k0 := (hbw.cell (p := ⟨b, 0, none⟩) hlt).trans HC.out.1
      have k1 := (hbw.cell (p := ⟨b, 1, none⟩) hlt).trans HC.out.2
      have HW1 : Hid (∀ nq o, Below w.heap.size w ((wr.alloc o).drewN nq)) := fun nq o => ⟨hbw.os, hbw.tape, hbw.output, (hbw.alloc hbw.size o).size, (hbw.alloc hbw.size o).block⟩
      have HF := Lib.hid (vF_false (n := xn) (d := xd))
      by_cases g1 : xd < 1
      · have d1 : decide (xd < 1) = true := by simpa using g1
        have HNO := Lib.hid (HF.out (by rw [HVF.out]; omega))
        go_wp2
        go_quiet ((first | (go_at_call_of 119 xn; exact Calls.quiet_of_same (HSN.out _)) | (go_at_call_of 119 xd; exact Calls.quiet_of_same (HSD.out _)) | (go_at_call 120; exact Calls.quiet_of (HGG.out _))))
        go_wp2
        go_returns
        exact ⟨_, rfl, by rw [HNO.out]; rfl, HW1.out _ _⟩
      have d1 : decide (xd < 1) = false := by simpa using g1
      by_cases g2 : 4611686018427387904 < xd
      · have d2 : decide (4611686018427387904 < xd) = true := by simpa using g2
        have HNO := Lib.hid (HF.out (by rw [HVF.out]; omega))
        go_wp2
        go_quiet ((first | (go_at_call_of 119 xn; exact Calls.quiet_of_same (HSN.out _)) | (go_at_call_of 119 xd; exact Calls.quiet_of_same (HSD.out _)) | (go_at_call 120; exact Calls.quiet_of (HGG.out _))))
        go_wp2
        go_returns
        exact ⟨_, rfl, by rw [HNO.out]; rfl, HW1.out _ _⟩
      have d2 : decide (4611686018427387904 < xd) = false := by simpa using g2
      by_cases g3 : 4611686018427387904 < S
      · have d3 : decide ((4611686018427387904 : Int) < (S : Int)) = true := by simp; omega
        have HNO := Lib.hid (HF.out (by rw [HVF.out]; omega))
        go_wp2
        go_quiet ((first | (go_at_call_of 119 xn; exact Calls.quiet_of_same (HSN.out _)) | (go_at_call_of 119 xd; exact Calls.quiet_of_same (HSD.out _)) | (go_at_call 120; exact Calls.quiet_of (HGG.out _))))
        go_wp2
        go_returns
        exact ⟨_, rfl, by rw [HNO.out]; rfl, HW1.out _ _⟩
      have d3 : decide ((4611686018427387904 : Int) < (S : Int)) = false := by simp; omega
      by_cases g4 : G = 1
      · have HGO := Lib.hid (HVF.out.2 ⟨by omega, by omega, by omega, g4⟩)
        subst g4
        go_wp2
        go_quiet ((first | (go_at_call_of 119 xn; exact Calls.quiet_of_same (HSN.out _)) | (go_at_call_of 119 xd; exact Calls.quiet_of_same (HSD.out _)) | (go_at_call 120; exact Calls.quiet_of (HGG.out _))))
        go_wp2
        go_roundw
        case rel => exact ⟨1, by omega, fun _ => HGO.out, by go_num, HW1.out _ _⟩
        case measure => simp [intOf]
      · have d4 : ((G : Int) == 1) = false := by simp; omega
        have HNO := Lib.hid (HF.out (by rw [HVF.out]; omega))
        go_wp2
        go_quiet ((first | (go_at_call_of 119 xn; exact Calls.quiet_of_same (HSN.out _)) | (go_at_call_of 119 xd; exact Calls.quiet_of_same (HSD.out _)) | (go_at_call 120; exact Calls.quiet_of (HGG.out _))))
        go_wp2
        go_returns
        exact ⟨_, rfl, by rw [HNO.out]; rfl, HW1.out _ _⟩
    · have : k = 1 := by omega
      subst this
      have HT := Lib.hid (vF_true (HV.out (by omega)))
      go_wp2
      go_returns
      exact ⟨_, rfl, by rw [HT.out]; rfl, hbw⟩

/-- What Check returns. -/
def ckI (n d : Int) : Int := if VF n d then 0 else 2
theorem ckI_t {n d : Int} (h : VF n d) : ckI n d = 0 := if_pos h
theorem ckI_f {n d : Int} (h : ¬ VF n d) : ckI n d = 2 := if_neg h
set_option maxHeartbeats 800000 in
theorem gcheck_any (xn xd : Int) (w : World) (h1 : -9223372036854775808 ≤ xn) (h2 : xn ≤ 9223372036854775807) (h3 : -9223372036854775808 ≤ xd) (h4 : xd ≤ 9223372036854775807) :
    Calls Try.prog 86 #[.agg #[.int .i64 xn, .int .i64 xd]] w (Ret (fun v _ => v = .int .i64 (ckI xn xd)) w) := by
  obtain ⟨W0, hW0⟩ : ∃ W0, W0 = (w.alloc (.cells #[.int .i64 xn, .int .i64 xd] TF)).alloc (.cells #[.int .i64 xn, .int .i64 xd] TF) := ⟨_, rfl⟩
  have hbw : Below w.heap.size w W0 := by rw [hW0]; go_grown
  have b1 : Blk W0 (w.heap.size + 1) TF #[.int .i64 xn, .int .i64 xd] := by rw [hW0]; exact Blk.new_ _ _ (by simp)
  have k1 := b1.cells
  simp only [cellsAre, Nat.zero_add, Nat.reduceAdd, and_true] at k1
  have HV := Lib.hid (gvalid1_any xn xd (w.heap.size + 1) W0 h1 h2 h3 h4 k1)
  clear b1 k1
  by_cases hv : VF xn xd
  · rw [vF_true hv] at HV
    rw [ckI_t hv]
    go_enter Try.func86, Try.ntmps86
    go_wp2_with fail
    rw [← hW0]
    clear hW0
    refine HV.out.mono ?_
    rintro e w1 ⟨v1, rfl, rfl, hb1⟩
    go_wp2
    go_returns
    exact ⟨_, rfl, rfl, bt hbw hb1⟩
  · rw [vF_false hv] at HV
    rw [ckI_f hv]
    go_enter Try.func86, Try.ntmps86
    go_wp2_with fail
    rw [← hW0]
    clear hW0
    refine HV.out.mono ?_
    rintro e w1 ⟨v1, rfl, rfl, hb1⟩
    go_wp2
    go_returns
    exact ⟨_, rfl, rfl, bt hbw hb1⟩
end Go.Proofs.Tb
/- Contract of package rate: Slope. -/
namespace Go.Proofs.Tb
open Go.RowKit
attribute [local go_sem] cell_set_same

/-- May the slope be asked? -/
def SlOk (rs : List Rdg) (i j : Int) : Prop := Vld rs ∧ 0 ≤ i ∧ i < rs.length ∧ 0 ≤ j ∧ j < rs.length ∧ i ≠ j
/-- What Slope returns. -/
def SlopeR (rs : List Rdg) (i j : Int) (v : Value) : Prop :=
  (SlOk rs i j → FracQ (slQ rs i.toNat j.toNat) v) ∧ (¬ SlOk rs i j → v = .tuple #[.agg #[.int .i64 0, .int .i64 0], .int .i64 1])
theorem SlopeR.bad {rs : List Rdg} {i j : Int} (h : ¬ SlOk rs i j) : SlopeR rs i j (.tuple #[.agg #[.int .i64 0, .int .i64 0], .int .i64 1]) := ⟨fun h' => absurd h' h, fun _ => rfl⟩
/-- What between returns, as numbers. -/
theorem between_q {rs : List Rdg} (hv : Vld rs) {I J : Nat} (hi : I < rs.length) (hj : J < rs.length) (hne : I ≠ J) :
    ∃ sn sd : Int, (if tm rs J < tm rs I then Value.agg #[.int .i64 (ofs rs I - ofs rs J), .int .i64 (tm rs I - tm rs J)] else .agg #[.int .i64 (ofs rs J - ofs rs I), .int .i64 (tm rs J - tm rs I)]) = .agg #[.int .i64 sn, .int .i64 sd] ∧
      -2000000 ≤ sn ∧ sn ≤ 2000000 ∧ 0 < sd ∧ sd ≤ 2000000 ∧ qv sn sd = slQ rs I J := by
  have b1 := hv.tm_bd hi
  have b2 := hv.tm_bd hj
  by_cases h : tm rs J < tm rs I
  · refine ⟨_, _, if_pos h, by omega, by omega, by omega, by omega, ?_⟩
    rw [slQ_comm]
    exact slQ_qv (by omega)
  · have hd := hv.tm_ne hi hj hne
    exact ⟨_, _, if_neg h, by omega, by omega, by omega, by omega, slQ_qv hd⟩

set_option maxHeartbeats 1600000 in
set_option maxRecDepth 100000 in
theorem rslope_any (A : Option Addr) (n c : Nat) (rs : List Rdg) (i j : Int) (w : World) (h : Rd w A n c rs) (hi : rngI i) (hj : rngI j) :
    Calls Try.prog 29 #[.slice A n c, .int .i64 i, .int .i64 j] w (Ret (fun v _ => SlopeR rs i j v) w) := by
  have hn := h.le
  have hc := h.cap
  have hl := h.len
  obtain ⟨i1, i2⟩ := hi
  obtain ⟨j1, j2⟩ := hj
  have HR := Lib.hid h
  obtain ⟨W0, hW0⟩ : ∃ W0, W0 = w.alloc (.cells #[.int .i64 0, .int .i64 0] TF) := ⟨_, rfl⟩
  have b0 : Blk W0 w.heap.size TF #[.int .i64 0, .int .i64 0] := by rw [hW0]; exact Blk.new_ _ _ rfl
  have hbw : Below w.heap.size w W0 := by rw [hW0]; go_grown
  have HB0 := Lib.hid b0
  have HBW := Lib.hid hbw
  clear h b0 hbw
  have HOK : Hid (SlOk rs i j ↔ (Vld rs ∧ 0 ≤ i ∧ i < (n : Int) ∧ 0 ≤ j ∧ j < (n : Int) ∧ i ≠ j)) := by
    show SlOk rs i j ↔ _
    unfold SlOk
    rw [hl]
  have HL := Lib.hid hl
  clear hl
  by_cases g : Vld rs
  · have HV : Hid (∀ W, Below w.heap.size w W → Calls Try.prog 56 #[.slice A n c] W (Ret (fun v _ => v = .bool true) W)) := fun W hb => by
      rw [← vld_true g]
      exact rvalid_any A n c rs W (HR.out.below hb)
    have G := Lib.hid g
    by_cases g1 : i < 0
    · have d1 : decide (i < 0) = true := by simpa using g1
      have HNO := Lib.hid (SlopeR.bad (rs := rs) (i := i) (j := j) (by rw [HOK.out]; omega))
      go_enter Try.func29, Try.ntmps29
      go_wp2_with fail
      rw [← hW0]
      clear hW0
      refine (HV.out W0 HBW.out).mono ?_
      rintro e w1 ⟨v1, rfl, rfl, hb1⟩
      have hW1 := bt HBW.out hb1
      have b1 := HB0.out.below hb1
      have k1 := b1.cells
      have kf := b1.free
      simp only [cellsAre, Nat.zero_add, Nat.reduceAdd, and_true] at k1
      clear hb1
      have hh1 : Held (w.heap.size) 2 TF w1 w1 := b1.heldS
      have r1 := (rules (w.heap.size) 2 TF w1).some
      go_wp2
      (try simp only [Exit.inBlock, Exit.then])
      refine bodyPost_ret (v := .tuple #[.agg #[.int .i64 0, .int .i64 0], .int .i64 1]) (by simp [results, Try.results29, go_sem, r1 _ hh1]) rfl ?_
      have hst2 := Held.set_ (Held.set_ (hh1.here) 0 (.int .i64 0)) 1 (.int .i64 0)
      exact ⟨_, rfl, HNO.out, (hh1.trans2 hst2).below hW1 (by omega)⟩
    by_cases g2 : i < (n : Int)
    rotate_left
    · have d1 : decide (i < 0) = false := by simp; omega
      have d2 : decide ((n : Int) ≤ i) = true := by simp; omega
      have HNO := Lib.hid (SlopeR.bad (rs := rs) (i := i) (j := j) (by rw [HOK.out]; omega))
      go_enter Try.func29, Try.ntmps29
      go_wp2_with fail
      rw [← hW0]
      clear hW0
      refine (HV.out W0 HBW.out).mono ?_
      rintro e w1 ⟨v1, rfl, rfl, hb1⟩
      have hW1 := bt HBW.out hb1
      have b1 := HB0.out.below hb1
      have k1 := b1.cells
      have kf := b1.free
      simp only [cellsAre, Nat.zero_add, Nat.reduceAdd, and_true] at k1
      clear hb1
      have hh1 : Held (w.heap.size) 2 TF w1 w1 := b1.heldS
      have r1 := (rules (w.heap.size) 2 TF w1).some
      go_wp2
      (try simp only [Exit.inBlock, Exit.then])
      refine bodyPost_ret (v := .tuple #[.agg #[.int .i64 0, .int .i64 0], .int .i64 1]) (by simp [results, Try.results29, go_sem, r1 _ hh1]) rfl ?_
      have hst2 := Held.set_ (Held.set_ (hh1.here) 0 (.int .i64 0)) 1 (.int .i64 0)
      exact ⟨_, rfl, HNO.out, (hh1.trans2 hst2).below hW1 (by omega)⟩
    by_cases g3 : j < 0
    · have d1 : decide (i < 0) = false := by simp; omega
      have d2 : decide ((n : Int) ≤ i) = false := by simp; omega
      have d3 : decide (j < 0) = true := by simpa using g3
      have HNO := Lib.hid (SlopeR.bad (rs := rs) (i := i) (j := j) (by rw [HOK.out]; omega))
      go_enter Try.func29, Try.ntmps29
      go_wp2_with fail
      rw [← hW0]
      clear hW0
      refine (HV.out W0 HBW.out).mono ?_
      rintro e w1 ⟨v1, rfl, rfl, hb1⟩
      have hW1 := bt HBW.out hb1
      have b1 := HB0.out.below hb1
      have k1 := b1.cells
      have kf := b1.free
      simp only [cellsAre, Nat.zero_add, Nat.reduceAdd, and_true] at k1
      clear hb1
      have hh1 : Held (w.heap.size) 2 TF w1 w1 := b1.heldS
      have r1 := (rules (w.heap.size) 2 TF w1).some
      go_wp2
      (try simp only [Exit.inBlock, Exit.then])
      refine bodyPost_ret (v := .tuple #[.agg #[.int .i64 0, .int .i64 0], .int .i64 1]) (by simp [results, Try.results29, go_sem, r1 _ hh1]) rfl ?_
      have hst2 := Held.set_ (Held.set_ (hh1.here) 0 (.int .i64 0)) 1 (.int .i64 0)
      exact ⟨_, rfl, HNO.out, (hh1.trans2 hst2).below hW1 (by omega)⟩
    by_cases g4 : j < (n : Int)
    rotate_left
    · have d1 : decide (i < 0) = false := by simp; omega
      have d2 : decide ((n : Int) ≤ i) = false := by simp; omega
      have d3 : decide (j < 0) = false := by simp; omega
      have d4 : decide ((n : Int) ≤ j) = true := by simp; omega
      have HNO := Lib.hid (SlopeR.bad (rs := rs) (i := i) (j := j) (by rw [HOK.out]; omega))
      go_enter Try.func29, Try.ntmps29
      go_wp2_with fail
      rw [← hW0]
      clear hW0
      refine (HV.out W0 HBW.out).mono ?_
      rintro e w1 ⟨v1, rfl, rfl, hb1⟩
      have hW1 := bt HBW.out hb1
      have b1 := HB0.out.below hb1
      have k1 := b1.cells
      have kf := b1.free
      simp only [cellsAre, Nat.zero_add, Nat.reduceAdd, and_true] at k1
      clear hb1
      have hh1 : Held (w.heap.size) 2 TF w1 w1 := b1.heldS
      have r1 := (rules (w.heap.size) 2 TF w1).some
      go_wp2
      (try simp only [Exit.inBlock, Exit.then])
      refine bodyPost_ret (v := .tuple #[.agg #[.int .i64 0, .int .i64 0], .int .i64 1]) (by simp [results, Try.results29, go_sem, r1 _ hh1]) rfl ?_
      have hst2 := Held.set_ (Held.set_ (hh1.here) 0 (.int .i64 0)) 1 (.int .i64 0)
      exact ⟨_, rfl, HNO.out, (hh1.trans2 hst2).below hW1 (by omega)⟩
    by_cases g5 : i = j
    · have d1 : decide (i < 0) = false := by simp; omega
      have d2 : decide ((n : Int) ≤ i) = false := by simp; omega
      have d3 : decide (j < 0) = false := by simp; omega
      have d4 : decide ((n : Int) ≤ j) = false := by simp; omega
      have HNO := Lib.hid (SlopeR.bad (rs := rs) (i := i) (j := j) (by rw [HOK.out]; omega))
      subst g5
      go_enter Try.func29, Try.ntmps29
      go_wp2_with fail
      rw [← hW0]
      clear hW0
      refine (HV.out W0 HBW.out).mono ?_
      rintro e w1 ⟨v1, rfl, rfl, hb1⟩
      have hW1 := bt HBW.out hb1
      have b1 := HB0.out.below hb1
      have k1 := b1.cells
      have kf := b1.free
      simp only [cellsAre, Nat.zero_add, Nat.reduceAdd, and_true] at k1
      clear hb1
      have hh1 : Held (w.heap.size) 2 TF w1 w1 := b1.heldS
      have r1 := (rules (w.heap.size) 2 TF w1).some
      go_wp2
      (try simp only [Exit.inBlock, Exit.then])
      refine bodyPost_ret (v := .tuple #[.agg #[.int .i64 0, .int .i64 0], .int .i64 1]) (by simp [results, Try.results29, go_sem, r1 _ hh1]) rfl ?_
      have hst2 := Held.set_ (Held.set_ (hh1.here) 0 (.int .i64 0)) 1 (.int .i64 0)
      exact ⟨_, rfl, HNO.out, (hh1.trans2 hst2).below hW1 (by omega)⟩
    obtain ⟨I, hI⟩ : ∃ I : Nat, i = (I : Int) := ⟨i.toNat, by omega⟩
    obtain ⟨J, hJ⟩ : ∃ J : Nat, j = (J : Int) := ⟨j.toNat, by omega⟩
    subst hI hJ
    have hi' : I < n := by omega
    have hj' : J < n := by omega
    have hne : I ≠ J := by omega
    have HSO := Lib.hid (HOK.out.2 ⟨g, by omega, by omega, by omega, by omega, by omega⟩)
    obtain ⟨sn, sd, hbt, s1, s2, s3, s4, hq⟩ := between_q g (I := I) (J := J) (by have := HL.out; omega) (by have := HL.out; omega) hne
    obtain ⟨ti1, ti2, yi1, yi2⟩ := g.tm_bd (i := I) (by have := HL.out; omega)
    obtain ⟨tj1, tj2, yj1, yj2⟩ := g.tm_bd (i := J) (by have := HL.out; omega)
    obtain ⟨b, o, rfl, _⟩ := HR.out.at_ (by omega)
    have HKC : Hid (∀ w', Below w.heap.size w w' → w'.cell? ⟨b, o + I * 2, none⟩ = some (.int .i64 (tm rs I)) ∧ w'.cell? ⟨b, o + I * 2 + 1, none⟩ = some (.int .i64 (ofs rs I)) ∧ w'.cell? ⟨b, o + J * 2, none⟩ = some (.int .i64 (tm rs J)) ∧ w'.cell? ⟨b, o + J * 2 + 1, none⟩ = some (.int .i64 (ofs rs J))) := fun w' hb => by
      obtain ⟨b', o', he, hcell⟩ := (HR.out.below hb).at_ (by omega)
      injection he with he
      injection he with h1 h2 _
      subst h1 h2
      exact ⟨(hcell I hi').1, (hcell I hi').2, (hcell J hj').1, (hcell J hj').2⟩
    have HBT : Hid (∀ W, Calls Try.prog 73 #[.agg #[.int .i64 (tm rs I), .int .i64 (ofs rs I)], .agg #[.int .i64 (tm rs J), .int .i64 (ofs rs J)]] W (Ret (fun v _ => v = .agg #[.int .i64 sn, .int .i64 sd]) W)) := fun W => by
      rw [← hbt]
      exact rbetween_any _ _ _ _ W ⟨ti1, ti2, yi1, yi2⟩ ⟨tj1, tj2, yj1, yj2⟩
    obtain ⟨ti, hti⟩ : ∃ x, tm rs I = x := ⟨_, rfl⟩
    obtain ⟨yi, hyi⟩ : ∃ x, ofs rs I = x := ⟨_, rfl⟩
    obtain ⟨tj, htj⟩ : ∃ x, tm rs J = x := ⟨_, rfl⟩
    obtain ⟨yj, hyj⟩ : ∃ x, ofs rs J = x := ⟨_, rfl⟩
    rw [hti, hyi, htj, hyj] at HKC HBT
    clear hbt ti1 ti2 yi1 yi2 tj1 tj2 yj1 yj2 hti hyi htj hyj hi' hj' hne
    have e1 : rn sn sd = sn := rn_p _ _ s3
    have e2 : rd sd = sd := by unfold rd; omega
    have HRAT : Hid (∀ W, Calls Try.prog 74 #[.agg #[.int .i64 sn, .int .i64 sd]] W (Ret (fun v w' => WQ w' v sn sd) W)) := fun W => by
      have := rrat_any sn sd W (by omega) (by omega) (by omega) (by omega) (by omega)
      rw [e1, e2] at this
      exact this
    have HFR : Hid (∀ v W, WQ W v sn sd → Calls Try.prog 78 #[v] W (Ret (fun v' _ => ∃ a b e : Int, v' = .tuple #[.agg #[.int .i64 a, .int .i64 b], .int .i64 e] ∧ FracQ (slQ rs I J) v') W)) := fun v W hw => by
      refine (wfrac_any v sn sd W hw (by have := sz_small sn (by omega) (by omega); omega) (by have := sz_small sd (by omega) (by omega); omega)).mono ?_
      rintro e w' ⟨v', he, hfr, hb⟩
      have hfq := hfr.q s3
      rw [hq] at hfq
      refine ⟨v', he, ?_, hb⟩
      by_cases hf : fitQ (slQ rs I J)
      · exact ⟨_, _, _, hfq.1 hf, hfq⟩
      · exact ⟨_, _, _, hfq.2 hf, hfq⟩
    clear e1 e2 s1 s2 s3 s4 hq g
    have d1 : decide ((I : Int) < 0) = false := by simp
    have d2 : decide ((n : Int) ≤ (I : Int)) = false := by simp; omega
    have d3 : decide ((J : Int) < 0) = false := by simp
    have d4 : decide ((n : Int) ≤ (J : Int)) = false := by simp; omega
    have d5 : ((I : Int) == (J : Int)) = false := by simp; omega
    go_enter Try.func29, Try.ntmps29
    go_wp2_with fail
    rw [← hW0]
    clear hW0
    refine (HV.out W0 HBW.out).mono ?_
    rintro e w1 ⟨v1, rfl, rfl, hb1⟩
    have hW1 := bt HBW.out hb1
    have b1 := HB0.out.below hb1
    clear hb1
    go_wp2_with fail
    have hst : Held (w.heap.size) 2 TF w1 w1.drew := b1.heldS.drew
    have r1 := (rules (w.heap.size) 2 TF w1).some
    have r2 := (rules (w.heap.size) 2 TF w1).free
    have k0 := fun w' (hh : Held (w.heap.size) 2 TF w1 w') => HKC.out w' (hh.below hW1 (Nat.le_refl _))
    clear b1
    go_region_held3 (fun w' => Held (w.heap.size) 2 TF w1 w') (first | assumption | exact Held.trans_ (by assumption) (by assumption) | exact Held.set_ (Held.set_ ((by assumption)) _ _) _ _)
      (first | (go_at_call 78; have tk := hb3; refine (HFR.out _ _ ⟨_, _, _, _, _, _, rfl, hx3_0, hx3_1, hp3⟩).mono ?_; rintro e w4 ⟨v4, rfl, ⟨fa, fb, fe, rfl, hfq⟩, hb4⟩; have hh4 : Held (w.heap.size) 2 TF w1 w4 := hh3.trans_ hb4) | (go_at_call 74; have tk := hb2; refine (HRAT.out _).mono ?_; rintro e w3 ⟨v3, rfl, ⟨A3_0, n3_0, c3_0, A3_1, n3_1, c3_1, rfl, hx3_0, hx3_1, hp3⟩, hb3⟩; have hh3 : Held (w.heap.size) 2 TF w1 w3 := hh2.trans_ hb3) | (go_at_call 73; refine (HBT.out _).mono ?_; rintro e w2 ⟨v2, rfl, rfl, hb2⟩; have hh2 : Held (w.heap.size) 2 TF w1 w2 := hst.trans_ hb2))
    go_wp2
    (try simp only [Exit.inBlock, Exit.then])
    refine bodyPost_ret (v := .tuple #[.agg #[.int .i64 fa, .int .i64 fb], .int .i64 fe]) (by simp [results, Try.results29, go_sem, r1 _ hh4]) rfl ?_
    have hst2 := Held.set_ (Held.set_ (hh4.here) 0 (.int .i64 fa)) 1 (.int .i64 fb)
    exact ⟨_, rfl, ⟨fun _ => hfq, fun hno => absurd HSO.out hno⟩, (hh4.trans2 hst2).below hW1 (by omega)⟩
  · have HV : Hid (∀ W, Below w.heap.size w W → Calls Try.prog 56 #[.slice A n c] W (Ret (fun v _ => v = .bool false) W)) := fun W hb => by
      rw [← vld_false g]
      exact rvalid_any A n c rs W (HR.out.below hb)
    have HNO := Lib.hid (SlopeR.bad (rs := rs) (i := i) (j := j) (by rw [HOK.out]; exact fun h => g h.1))
    go_enter Try.func29, Try.ntmps29
    go_wp2_with fail
    rw [← hW0]
    clear hW0
    refine (HV.out W0 HBW.out).mono ?_
    rintro e w1 ⟨v1, rfl, rfl, hb1⟩
    have hW1 := bt HBW.out hb1
    have b1 := HB0.out.below hb1
    have k1 := b1.cells
    have kf := b1.free
    simp only [cellsAre, Nat.zero_add, Nat.reduceAdd, and_true] at k1
    clear hb1
    have hh1 : Held (w.heap.size) 2 TF w1 w1 := b1.heldS
    have r1 := (rules (w.heap.size) 2 TF w1).some
    go_wp2
    (try simp only [Exit.inBlock, Exit.then])
    refine bodyPost_ret (v := .tuple #[.agg #[.int .i64 0, .int .i64 0], .int .i64 1]) (by simp [results, Try.results29, go_sem, r1 _ hh1]) rfl ?_
    have hst2 := Held.set_ (Held.set_ (hh1.here) 0 (.int .i64 0)) 1 (.int .i64 0)
    exact ⟨_, rfl, HNO.out, (hh1.trans2 hst2).below hW1 (by omega)⟩
end Go.Proofs.Tb
/- Contract of package rate: Worst. -/
namespace Go.Proofs.Tb
open Go.RowKit
attribute [local go_sem] cell_set_same

/-- May Worst be asked? -/
def WoOk (rs : List Rdg) (a b c d : Int) : Prop := Vld rs ∧ VF a b ∧ VF c d
/-- What Worst returns. -/
def WorstR (rs : List Rdg) (a b c d : Int) (v : Value) : Prop :=
  (WoOk rs a b c d → FracQ (wsT rs (qv a b) (qv c d) rs.length) v) ∧ (¬ WoOk rs a b c d → v = .tuple #[.agg #[.int .i64 0, .int .i64 0], .int .i64 1])
theorem WorstR.bad {rs : List Rdg} {a b c d : Int} (h : ¬ WoOk rs a b c d) : WorstR rs a b c d (.tuple #[.agg #[.int .i64 0, .int .i64 0], .int .i64 1]) := ⟨fun h' => absurd h' h, fun _ => rfl⟩

theorem FracQ.form3 {x : Rat} {v : Value} (h : FracQ x v) : ∃ a b e : Int, v = .tuple #[.agg #[.int .i64 a, .int .i64 b], .int .i64 e] := by
  by_cases hf : fitQ x
  · exact ⟨_, _, _, h.1 hf⟩
  · exact ⟨_, _, _, h.2 hf⟩
set_option maxHeartbeats 6400000 in
set_option maxRecDepth 100000 in
theorem rworst_any (A : Option Addr) (n c : Nat) (rs : List Rdg) (la lb lc ld : Int) (w : World) (h : Rd w A n c rs) (h1 : rngI la) (h2 : rngI lb) (h3 : rngI lc) (h4 : rngI ld) :
    Calls Try.prog 44 #[.slice A n c, .agg #[.int .i64 la, .int .i64 lb, .int .i64 lc, .int .i64 ld]] w (Ret (fun v _ => WorstR rs la lb lc ld v) w) := by
  have hn := h.le
  have hc := h.cap
  have HLEN := Lib.hid h.len
  have H := Lib.hid h
  have HC1 := Lib.hid (fun W : World => gcheck_any la lb W h1.1 h1.2 h2.1 h2.2)
  have HC2 := Lib.hid (fun W : World => gcheck_any lc ld W h3.1 h3.2 h4.1 h4.2)
  clear h h1 h2 h3 h4
  go_enter Try.func44, Try.ntmps44
  go_wp2_with fail
  obtain ⟨W0, hW0⟩ : ∃ W0, W0 = (w.alloc (.cells #[.int .i64 la, .int .i64 lb, .int .i64 lc, .int .i64 ld] TAL)).alloc (.cells #[.int .i64 0, .int .i64 0] TF) := ⟨_, rfl⟩
  have e0 : Blk W0 w.heap.size TAL #[.int .i64 la, .int .i64 lb, .int .i64 lc, .int .i64 ld] := by rw [hW0]; exact (Blk.new_ _ _ rfl).alloc _
  have e1 : Blk W0 (w.heap.size + 1) TF #[.int .i64 0, .int .i64 0] := by rw [hW0]; exact Blk.new_ _ _ (by simp)
  have hbw : Below w.heap.size w W0 := by rw [hW0]; go_grown
  rw [← hW0]
  clear hW0
  refine (rvalid_any A n c rs W0 (H.out.below hbw)).mono ?_
  rintro e w1 ⟨v1, rfl, hv1, hb1⟩
  have E0 := Lib.hid (e0.below hb1)
  have E1 := Lib.hid (e1.below hb1)
  have HB1 := Lib.hid (bt hbw hb1)
  have k0 := zcells (e0.below hb1)
  clear e0 e1 hbw hb1
  by_cases g : Vld rs
  rotate_left
  · rw [vld_false g] at hv1
    subst hv1
    have HNO := Lib.hid (WorstR.bad (rs := rs) (a := la) (b := lb) (c := lc) (d := ld) (fun h => g h.1))
    have hh1 : Held (w.heap.size + 1) 2 TF w1 w1 := (E1.out).heldS
    have kf := (E1.out).free
    have k1 := (E1.out).cells
    simp only [cellsAre, Nat.zero_add, Nat.reduceAdd, and_true] at k1
    have r1 := (rules (w.heap.size + 1) 2 TF w1).some
    go_wp2
    (try simp only [Exit.inBlock, Exit.then])
    refine bodyPost_ret (v := .tuple #[.agg #[.int .i64 0, .int .i64 0], .int .i64 1]) (by simp [results, Try.results44, go_sem, r1 _ hh1]) rfl ?_
    have hst2 := Held.set_ (Held.set_ (hh1.here) 0 (.int .i64 0)) 1 (.int .i64 0)
    exact ⟨_, rfl, HNO.out, (hh1.trans2 hst2).below HB1.out (by omega)⟩
  rw [vld_true g] at hv1
  subst hv1
  go_wp2_with fail
  refine (HC1.out _).mono ?_
  rintro e w2 ⟨v2, rfl, hv2, hb2⟩
  have E0 := Lib.hid (E0.out.below hb2)
  have E1 := Lib.hid (E1.out.below hb2)
  have HB2 := Lib.hid (bt HB1.out hb2)
  have k0 := zcells E0.out
  clear hb2
  by_cases g1 : VF la lb
  rotate_left
  · rw [ckI_f g1] at hv2
    subst hv2
    have HNO := Lib.hid (WorstR.bad (rs := rs) (a := la) (b := lb) (c := lc) (d := ld) (fun h => g1 h.2.1))
    have hh1 : Held (w.heap.size + 1) 2 TF w2 w2 := (E1.out).heldS
    have kf := (E1.out).free
    have k1 := (E1.out).cells
    simp only [cellsAre, Nat.zero_add, Nat.reduceAdd, and_true] at k1
    have r1 := (rules (w.heap.size + 1) 2 TF w2).some
    go_wp2
    (try simp only [Exit.inBlock, Exit.then])
    refine bodyPost_ret (v := .tuple #[.agg #[.int .i64 0, .int .i64 0], .int .i64 1]) (by simp [results, Try.results44, go_sem, r1 _ hh1]) rfl ?_
    have hst2 := Held.set_ (Held.set_ (hh1.here) 0 (.int .i64 0)) 1 (.int .i64 0)
    exact ⟨_, rfl, HNO.out, (hh1.trans2 hst2).below HB2.out (by omega)⟩
  rw [ckI_t g1] at hv2
  subst hv2
  go_wp2_with fail
  refine (HC2.out _).mono ?_
  rintro e w3 ⟨v3, rfl, hv3, hb3⟩
  have E0 := Lib.hid (E0.out.below hb3)
  have E1 := Lib.hid (E1.out.below hb3)
  have HB3 := Lib.hid (bt HB2.out hb3)
  have k0 := zcells E0.out
  clear hb3
  by_cases g2 : VF lc ld
  rotate_left
  · rw [ckI_f g2] at hv3
    subst hv3
    have HNO := Lib.hid (WorstR.bad (rs := rs) (a := la) (b := lb) (c := lc) (d := ld) (fun h => g2 h.2.2))
    have hh1 : Held (w.heap.size + 1) 2 TF w3 w3 := (E1.out).heldS
    have kf := (E1.out).free
    have k1 := (E1.out).cells
    simp only [cellsAre, Nat.zero_add, Nat.reduceAdd, and_true] at k1
    have r1 := (rules (w.heap.size + 1) 2 TF w3).some
    go_wp2
    (try simp only [Exit.inBlock, Exit.then])
    refine bodyPost_ret (v := .tuple #[.agg #[.int .i64 0, .int .i64 0], .int .i64 1]) (by simp [results, Try.results44, go_sem, r1 _ hh1]) rfl ?_
    have hst2 := Held.set_ (Held.set_ (hh1.here) 0 (.int .i64 0)) 1 (.int .i64 0)
    exact ⟨_, rfl, HNO.out, (hh1.trans2 hst2).below HB3.out (by omega)⟩
  rw [ckI_t g2] at hv3
  subst hv3
  have HOK : Hid (WoOk rs la lb lc ld) := ⟨g, g1, g2⟩
  have G1 := Lib.hid g1
  have G2 := Lib.hid g2
  obtain ⟨x, hx⟩ : ∃ x, qv la lb = x := ⟨_, rfl⟩
  obtain ⟨y, hy⟩ : ∃ x, qv lc ld = x := ⟨_, rfl⟩
  have HX := Lib.hid hx
  have HY := Lib.hid hy
  have HFX : Hid (∀ W, Calls Try.prog 87 #[.agg #[.int .i64 la, .int .i64 lb]] W (Ret (fun v w' => WX w' v x 2) W)) := fun W => by
    rw [← hx]; exact vfrom_any la lb W (by have := g1.1; omega) (by have := g1.1; omega) (by have := g1.1; omega) (by have := g1.1; omega)
  have HFY : Hid (∀ W, Calls Try.prog 87 #[.agg #[.int .i64 lc, .int .i64 ld]] W (Ret (fun v w' => WX w' v y 2) W)) := fun W => by
    rw [← hy]; exact vfrom_any lc ld W (by have := g2.1; omega) (by have := g2.1; omega) (by have := g2.1; omega) (by have := g2.1; omega)
  clear g g1 g2 hx hy
  go_wp2_with fail
  refine (vwhole_any 0 _ (by omega) (by omega)).mono ?_
  rintro e w4 ⟨v4, rfl, hx4, hb4⟩
  obtain ⟨d1, A5, n5, c5, d1', A5', n5', c5', rfl⟩ := hx4.form
  have E0 := Lib.hid (E0.out.below hb4)
  have E1 := Lib.hid (E1.out.below hb4)
  have HB4 := Lib.hid (bt HB3.out hb4)
  have HX4 := Lib.hid ((show WX w4 _ (wsT rs x y 0) 2 from hx4).le (show 2 ≤ 10 by omega))
  have hsz1 : w.heap.size + 1 < w4.heap.size := E1.out.lt
  have HSZ1 := Lib.hid hsz1
  clear hx4 hb4 k0
  go_upto_region 4 with fail
  refine wp_world (fun W => Blk W w4.heap.size TR #[.bool d1, .slice A5 n5 c5, .bool d1', .slice A5' n5' c5'] ∧ Below w4.heap.size w4 W) (by exact ⟨Blk.new_ _ _ rfl, by go_grown⟩) ?_
  rintro W2 ⟨e2, hbw2⟩
  have E2 := Lib.hid e2
  have HB5 := Lib.hid hbw2
  clear e2 hbw2
  go_wp2
  go_loopw [30] (fun i wr => ∃ (k : Nat) (d : Bool) (B : Option Addr) (m e : Nat) (d' : Bool) (B' : Option Addr) (m' e' : Nat), k ≤ n ∧ i = .int .i64 k ∧ Blk wr w.heap.size TAL #[.int .i64 la, .int .i64 lb, .int .i64 lc, .int .i64 ld] ∧
      Blk wr (w.heap.size + 1) TF #[.int .i64 0, .int .i64 0] ∧ Blk wr w4.heap.size TR #[.bool d, .slice B m e, .bool d', .slice B' m' e'] ∧ WX wr (.agg #[.bool d, .slice B m e, .bool d', .slice B' m' e']) (wsT rs x y k) 10 ∧ Below w.heap.size w wr) (fun i _ => n - (intOf i).toNat)
  case atStart => exact ⟨0, _, _, _, _, _, _, _, _, Nat.zero_le _, rfl, E0.out.below HB5.out, E1.out.below HB5.out, E2.out, HX4.out.below HB5.out, bt HB4.out HB5.out⟩
  case round =>
    clear E0 E1 HB1 HB2 HB3 HB4 HX4 E2 HB5
    obtain ⟨k, d, B, m, e, d', B', m', e', hk, rfl, f0, f1, f2, hxk, hbw⟩ := hrel
    have F0 := Lib.hid f0
    have F1 := Lib.hid f1
    have F2 := Lib.hid f2
    have HXK := Lib.hid hxk
    have HBW := Lib.hid hbw
    clear f0 f1 f2 hxk hbw
    by_cases hkn : k < n
    · have p1 : (k : Int) < (n : Int) := by omega
      obtain ⟨bb, o, rfl, hcell⟩ := (H.out.below HBW.out).at_ (by omega)
      obtain ⟨hct, hcy⟩ := hcell k hkn
      have RNG0 := H.out.getD_rng k
      obtain ⟨t, ht⟩ : ∃ t, (rs.getD k (0, 0)).1 = t := ⟨_, rfl⟩
      obtain ⟨q, hq⟩ : ∃ t, (rs.getD k (0, 0)).2 = t := ⟨_, rfl⟩
      rw [ht] at hct RNG0
      rw [hq] at hcy RNG0
      have RNG : Hid (rngI t ∧ rngI q) := ⟨⟨RNG0.1, RNG0.2.1⟩, RNG0.2.2⟩
      have HT := Lib.hid (show tm rs k = t from ht)
      have HQ := Lib.hid (show ofs rs k = q from hq)
      clear ht hq hcell RNG0
      go_upto_region 7 with fail
      refine wp_world (fun W => Blk W wr.heap.size TRD #[.int .i64 t, .int .i64 q] ∧ Below wr.heap.size wr W) (by exact ⟨Blk.new_ _ _ rfl, by go_grown⟩) ?_
      rintro W7 ⟨e8, hbw7⟩
      have E8 := Lib.hid e8
      have HB7 := Lib.hid hbw7
      clear e8 hbw7 hct hcy
      have c1 := fun w' (hh : Ext W7 w') => zcells (F0.out.below (bt HB7.out hh))
      have c2 := fun w' (hh : Ext W7 w') => (E8.out.below hh).cells
      simp only [cellsAre, Nat.zero_add, Nat.reduceAdd, and_true] at c2
      go_cut [9] (fun s7 wx => ∃ (R7 : Nat) (d : Bool) (B : Option Addr) (m e : Nat) (d' : Bool) (B' : Option Addr) (m' e' : Nat), s7 = .pointer (some ⟨R7, 0, none⟩) ∧ Blk wx R7 TR #[.bool d, .slice B m e, .bool d', .slice B' m' e'] ∧ WX wx (.agg #[.bool d, .slice B m e, .bool d', .slice B' m' e']) (x * (t : Rat) + y) 7 ∧ Below W7.heap.size W7 wx)
      case first =>
        have hst : Ext W7 W7.drew := Ext.drew _
        go_region_held3 (fun w' => Ext W7 w') (first | with_reducible assumption | exact Ext.below (by with_reducible assumption) (by with_reducible assumption) | exact Ext.alloc (by with_reducible assumption) _ | exact Ext.set_ (Ext.set_ (Ext.set_ (Ext.set_ (by assumption) (by first | exact Nat.le_refl _ | exact Ext.le (by assumption)) _) (by first | exact Nat.le_refl _ | exact Ext.le (by assumption)) _) (by first | exact Nat.le_refl _ | exact Ext.le (by assumption)) _) (by first | exact Nat.le_refl _ | exact Ext.le (by assumption)) _)
          (first | (go_at_call 75; have tk := hx4; refine (vadd_any (hx3.below (by first | exact Below.refl _ _ | go_grown)) (hx4.below (by first | exact Below.refl _ _ | go_grown)) (by omega)).mono ?_; rintro e y5 ⟨z5, rfl, hx5, hb5⟩; obtain ⟨d5, A5, n5, c5, d5', A5', n5', c5', rfl⟩ := hx5.form; have hext : Ext W7 y5 := Ext.below (by assumption) hb5; (first | (have nb : Blk y5 (y4).heap.size TR #[.bool false, .slice none 0 0, .bool false, .slice none 0 0] := Blk.below (Blk.new_ _ _ rfl) hb5; have nc := nb.cells; have nf := nb.free; simp only [cellsAre, Nat.zero_add, Nat.reduceAdd, and_true] at nc) | (have nb : Blk y5 (y4).heap.size TR #[.bool false, .slice none 0 0, .bool false, .slice none 0 0] := Blk.below (Blk.drew (Blk.new_ _ _ rfl)) hb5; have nc := nb.cells; have nf := nb.free; simp only [cellsAre, Nat.zero_add, Nat.reduceAdd, and_true] at nc) | (have nb := Blk.below nb hb5; have nc := nb.cells; have nf := nb.free; simp only [cellsAre, Nat.zero_add, Nat.reduceAdd, and_true] at nc) | skip)) | (go_at_call 87; have tk := hx3; refine (HFY.out _).mono ?_; rintro e y4 ⟨z4, rfl, hx4, hb4⟩; obtain ⟨d4, A4, n4, c4, d4', A4', n4', c4', rfl⟩ := hx4.form; have hext : Ext W7 y4 := Ext.below (by assumption) hb4; have hx3 := hx3.below (bt (by first | exact Below.refl _ _ | go_grown) hb4); (first | (have nb : Blk y4 (y3).heap.size TR #[.bool false, .slice none 0 0, .bool false, .slice none 0 0] := Blk.below (Blk.new_ _ _ rfl) hb4; have nc := nb.cells; have nf := nb.free; simp only [cellsAre, Nat.zero_add, Nat.reduceAdd, and_true] at nc) | (have nb : Blk y4 (y3).heap.size TR #[.bool false, .slice none 0 0, .bool false, .slice none 0 0] := Blk.below (Blk.drew (Blk.new_ _ _ rfl)) hb4; have nc := nb.cells; have nf := nb.free; simp only [cellsAre, Nat.zero_add, Nat.reduceAdd, and_true] at nc) | (have nb := Blk.below nb hb4; have nc := nb.cells; have nf := nb.free; simp only [cellsAre, Nat.zero_add, Nat.reduceAdd, and_true] at nc) | skip)) | (go_at_call 62; have tk := hx2; refine (vmul_any (hx1.below (by first | exact Below.refl _ _ | go_grown)) (hx2.below (by first | exact Below.refl _ _ | go_grown)) (by omega)).mono ?_; rintro e y3 ⟨z3, rfl, hx3, hb3⟩; obtain ⟨d3, A3, n3, c3, d3', A3', n3', c3', rfl⟩ := hx3.form; have hext : Ext W7 y3 := Ext.below (by assumption) hb3; (first | (have nb : Blk y3 (y2).heap.size TR #[.bool false, .slice none 0 0, .bool false, .slice none 0 0] := Blk.below (Blk.new_ _ _ rfl) hb3; have nc := nb.cells; have nf := nb.free; simp only [cellsAre, Nat.zero_add, Nat.reduceAdd, and_true] at nc) | (have nb : Blk y3 (y2).heap.size TR #[.bool false, .slice none 0 0, .bool false, .slice none 0 0] := Blk.below (Blk.drew (Blk.new_ _ _ rfl)) hb3; have nc := nb.cells; have nf := nb.free; simp only [cellsAre, Nat.zero_add, Nat.reduceAdd, and_true] at nc) | (have nb := Blk.below nb hb3; have nc := nb.cells; have nf := nb.free; simp only [cellsAre, Nat.zero_add, Nat.reduceAdd, and_true] at nc) | skip)) | (go_at_call 60; have tk := hx1; refine (vwhole_any t _ RNG.out.1.1 RNG.out.1.2).mono ?_; rintro e y2 ⟨z2, rfl, hx2, hb2⟩; obtain ⟨d2, A2, n2, c2, d2', A2', n2', c2', rfl⟩ := hx2.form; have hext : Ext W7 y2 := Ext.below (by assumption) hb2; have hx1 := hx1.below (bt (by first | exact Below.refl _ _ | go_grown) hb2); (first | (have nb : Blk y2 (y1).heap.size TR #[.bool false, .slice none 0 0, .bool false, .slice none 0 0] := Blk.below (Blk.new_ _ _ rfl) hb2; have nc := nb.cells; have nf := nb.free; simp only [cellsAre, Nat.zero_add, Nat.reduceAdd, and_true] at nc) | (have nb : Blk y2 (y1).heap.size TR #[.bool false, .slice none 0 0, .bool false, .slice none 0 0] := Blk.below (Blk.drew (Blk.new_ _ _ rfl)) hb2; have nc := nb.cells; have nf := nb.free; simp only [cellsAre, Nat.zero_add, Nat.reduceAdd, and_true] at nc) | (have nb := Blk.below nb hb2; have nc := nb.cells; have nf := nb.free; simp only [cellsAre, Nat.zero_add, Nat.reduceAdd, and_true] at nc) | skip)) | (go_at_call 87; have tk := hst; refine (HFX.out _).mono ?_; rintro e y1 ⟨z1, rfl, hx1, hb1⟩; obtain ⟨d1, A1, n1, c1, d1', A1', n1', c1', rfl⟩ := hx1.form; have hext : Ext W7 y1 := Ext.below (by assumption) hb1; (first | (have nb : Blk y1 (W7).heap.size TR #[.bool false, .slice none 0 0, .bool false, .slice none 0 0] := Blk.below (Blk.new_ _ _ rfl) hb1; have nc := nb.cells; have nf := nb.free; simp only [cellsAre, Nat.zero_add, Nat.reduceAdd, and_true] at nc) | (have nb : Blk y1 (W7).heap.size TR #[.bool false, .slice none 0 0, .bool false, .slice none 0 0] := Blk.below (Blk.drew (Blk.new_ _ _ rfl)) hb1; have nc := nb.cells; have nf := nb.free; simp only [cellsAre, Nat.zero_add, Nat.reduceAdd, and_true] at nc) | (have nb := Blk.below nb hb1; have nc := nb.cells; have nf := nb.free; simp only [cellsAre, Nat.zero_add, Nat.reduceAdd, and_true] at nc) | skip)))
        all_goals (go_wp2_with fail; go_meet; refine ⟨_, d5, A5, n5, c5, d5', A5', n5', c5', rfl, ?_, ?_, ?_⟩)
        all_goals (first | exact (((nb.set_ 0 _).set_ 1 _).set_ 2 _).set_ 3 _ | exact Blk.new_ _ _ rfl | (show Ext W7 _; assumption) | exact hx5.held (heldPut nb _ _ _ _) (by decide) | exact hx5.below (by go_grown))
      case rest =>
        obtain ⟨R9, d9, A9, n9, c9, d9', A9', n9', c9', rfl, hb9, hx9, hbx⟩ := hcut
        go_upto_region 8 with fail
        refine wp_world (fun W8 => Blk W8 R9 TR #[.bool d9, .slice A9 n9 c9, .bool d9', .slice A9' n9' c9'] ∧ WX W8 (.agg #[.bool d9, .slice A9 n9 c9, .bool d9', .slice A9' n9' c9']) (x * (t : Rat) + y) 7 ∧ Below W7.heap.size W7 W8) (by exact ⟨hb9, hx9, hbx⟩) ?_
        clear hb9 hx9 hbx c1 c2
        rintro W8 ⟨e9, hx9, hbx8⟩
        have E9 := Lib.hid e9
        have HX9 := Lib.hid hx9
        have HB8 := Lib.hid hbx8
        clear e9 hx9 hbx8
        have HX9W : Hid (∀ W, Ext W8 W → WX W (.agg #[.bool d9, .slice A9 n9 c9, .bool d9', .slice A9' n9' c9']) (x * (t : Rat) + y) 7) := fun W hW => HX9.out.below hW
        have c3 := fun w' (hh : Ext W8 w') => (E8.out.below (bt HB8.out hh)).cells
        have c4 := fun w' (hh : Ext W8 w') => zcells (E9.out.below hh)
        simp only [cellsAre, Nat.zero_add, Nat.reduceAdd, and_true] at c3
        go_cut [10] (fun s7 wx => ∃ (R7 : Nat) (d : Bool) (B : Option Addr) (m e : Nat) (d' : Bool) (B' : Option Addr) (m' e' : Nat), s7 = .pointer (some ⟨R7, 0, none⟩) ∧ Blk wx R7 TR #[.bool d, .slice B m e, .bool d', .slice B' m' e'] ∧ WX wx (.agg #[.bool d, .slice B m e, .bool d', .slice B' m' e']) (rab (erQ x y t q)) 10 ∧ Below W8.heap.size W8 wx)
        case first =>
          have hst : Ext W8 W8.drew := Ext.drew _
          go_region_held3 (fun w' => Ext W8 w') (first | with_reducible assumption | exact Ext.below (by with_reducible assumption) (by with_reducible assumption) | exact Ext.alloc (by with_reducible assumption) _ | exact Ext.set_ (Ext.set_ (Ext.set_ (Ext.set_ (by assumption) (by first | exact Nat.le_refl _ | exact Ext.le (by assumption)) _) (by first | exact Nat.le_refl _ | exact Ext.le (by assumption)) _) (by first | exact Nat.le_refl _ | exact Ext.le (by assumption)) _) (by first | exact Nat.le_refl _ | exact Ext.le (by assumption)) _)
            (first | (go_at_call 77; have tk := hx2; refine (vabs_any (hx2.below (by first | exact Below.refl _ _ | go_grown))).mono ?_; rintro e y3 ⟨z3, rfl, hx3, hb3⟩; obtain ⟨d3, A3, n3, c3, d3', A3', n3', c3', rfl⟩ := hx3.form; have hext : Ext W8 y3 := Ext.below (by assumption) hb3; (first | (have nb : Blk y3 (y2).heap.size TR #[.bool false, .slice none 0 0, .bool false, .slice none 0 0] := Blk.below (Blk.new_ _ _ rfl) hb3; have nc := nb.cells; have nf := nb.free; simp only [cellsAre, Nat.zero_add, Nat.reduceAdd, and_true] at nc) | (have nb : Blk y3 (y2).heap.size TR #[.bool false, .slice none 0 0, .bool false, .slice none 0 0] := Blk.below (Blk.drew (Blk.new_ _ _ rfl)) hb3; have nc := nb.cells; have nf := nb.free; simp only [cellsAre, Nat.zero_add, Nat.reduceAdd, and_true] at nc) | (have nb := Blk.below nb hb3; have nc := nb.cells; have nf := nb.free; simp only [cellsAre, Nat.zero_add, Nat.reduceAdd, and_true] at nc) | skip)) | (go_at_call 61; have tk := hx1; refine (vsub_any (hx1.below (by first | exact Below.refl _ _ | go_grown)) (HX9W.out _ (by assumption)) (by omega)).mono ?_; rintro e y2 ⟨z2, rfl, hx2, hb2⟩; obtain ⟨d2, A2, n2, c2, d2', A2', n2', c2', rfl⟩ := hx2.form; have hext : Ext W8 y2 := Ext.below (by assumption) hb2; (first | (have nb : Blk y2 (y1).heap.size TR #[.bool false, .slice none 0 0, .bool false, .slice none 0 0] := Blk.below (Blk.new_ _ _ rfl) hb2; have nc := nb.cells; have nf := nb.free; simp only [cellsAre, Nat.zero_add, Nat.reduceAdd, and_true] at nc) | (have nb : Blk y2 (y1).heap.size TR #[.bool false, .slice none 0 0, .bool false, .slice none 0 0] := Blk.below (Blk.drew (Blk.new_ _ _ rfl)) hb2; have nc := nb.cells; have nf := nb.free; simp only [cellsAre, Nat.zero_add, Nat.reduceAdd, and_true] at nc) | (have nb := Blk.below nb hb2; have nc := nb.cells; have nf := nb.free; simp only [cellsAre, Nat.zero_add, Nat.reduceAdd, and_true] at nc) | skip)) | (go_at_call 60; have tk := hst; refine (vwhole_any q _ RNG.out.2.1 RNG.out.2.2).mono ?_; rintro e y1 ⟨z1, rfl, hx1, hb1⟩; obtain ⟨d1, A1, n1, c1, d1', A1', n1', c1', rfl⟩ := hx1.form; have hext : Ext W8 y1 := Ext.below (by assumption) hb1; (first | (have nb : Blk y1 (W8).heap.size TR #[.bool false, .slice none 0 0, .bool false, .slice none 0 0] := Blk.below (Blk.new_ _ _ rfl) hb1; have nc := nb.cells; have nf := nb.free; simp only [cellsAre, Nat.zero_add, Nat.reduceAdd, and_true] at nc) | (have nb : Blk y1 (W8).heap.size TR #[.bool false, .slice none 0 0, .bool false, .slice none 0 0] := Blk.below (Blk.drew (Blk.new_ _ _ rfl)) hb1; have nc := nb.cells; have nf := nb.free; simp only [cellsAre, Nat.zero_add, Nat.reduceAdd, and_true] at nc) | (have nb := Blk.below nb hb1; have nc := nb.cells; have nf := nb.free; simp only [cellsAre, Nat.zero_add, Nat.reduceAdd, and_true] at nc) | skip)))
          all_goals (go_wp2_with fail; go_meet; refine ⟨_, d3, A3, n3, c3, d3', A3', n3', c3', rfl, ?_, ?_, ?_⟩)
          all_goals (first | exact (((nb.set_ 0 _).set_ 1 _).set_ 2 _).set_ 3 _ | exact Blk.new_ _ _ rfl | (show Ext W8 _; assumption) | exact hx3.held (heldPut nb _ _ _ _) (by decide) | exact hx3.below (by go_grown))
        case rest =>
          obtain ⟨R7, da, Ba, ma, ea, da', Ba', ma', ea', rfl, hb7, hxa, hbx⟩ := hcut
          have hx5 := HXK.out.below (bt HB7.out (bt HB8.out hbx))
          have k7 := zcells hb7
          have k5 := zcells (F2.out.below (bt HB7.out (bt HB8.out hbx)))
          have HB10 := Lib.hid hb7
          have HXA := Lib.hid hxa
          have HBX := Lib.hid (show Ext wr wc from bt HB7.out (bt HB8.out hbx))
          clear c3 c4 hb7 hbx
          go_wp2_with fail
          refine (vcmp_any hxa hx5 (by omega)).mono ?_
          rintro e y1 ⟨z1, rfl, hz1, hd1⟩
          subst hz1
          obtain ⟨cv, hcv⟩ : ∃ cv, cmpR (rab (erQ x y t q)) (wsT rs x y k) = cv := ⟨_, rfl⟩
          rw [hcv]
          have HCV := Lib.hid hcv
          have HD := Lib.hid (show Ext wr y1 from bt HBX.out hd1)
          have HXA := Lib.hid (HXA.out.below hd1)
          have HX5 := Lib.hid (hx5.below hd1)
          have k7 := zcells (HB10.out.below hd1)
          have k5 := zcells (F2.out.below HD.out)
          have kf := (F2.out.below HD.out).free
          clear hxa hx5 hcv hd1
          by_cases hlt : wsT rs x y k < rab (erQ x y t q)
          · have HLT := Lib.hid hlt
            have g2 : decide ((0 : Int) < cv) = true := by simp; rw [← HCV.out]; exact cmpR_gt.2 hlt
            have HE := Lib.hid (show rab (erQ x y t q) = wsT rs x y (k + 1) by rw [← HT.out, ← HQ.out]; exact wsT_t (by rw [HT.out, HQ.out]; exact hlt))
            clear hlt
            go_wp2
            have G2 := F2.out.below HD.out
            have hh := heldPut G2 (.bool da) (.slice Ba ma ea) (.bool da') (.slice Ba' ma' ea')
            go_roundw
            case rel => exact ⟨k + 1, da, Ba, ma, ea, da', Ba', ma', ea', by omega, by go_num, (F0.out.below HD.out).held hh (by have := HSZ1.out; omega), (F1.out.below HD.out).held hh (by have := HSZ1.out; omega), G2.put4 _ _ _ _, by rw [← HE.out]; exact HXA.out.held hh (by decide), hh.below (bt HBW.out HD.out) (by have := HSZ1.out; omega)⟩
            case measure => simp [intOf]; omega
          · have g2 : decide ((0 : Int) < cv) = false := by simp; rw [← HCV.out]; exact Int.not_lt.1 (fun h => hlt (cmpR_gt.1 h))
            have HE := Lib.hid (show wsT rs x y k = wsT rs x y (k + 1) from wsT_f (by rw [HT.out, HQ.out]; exact hlt))
            clear hlt
            go_wp2
            go_roundw
            case rel => exact ⟨k + 1, d, B, m, e, d', B', m', e', by omega, by go_num, F0.out.below HD.out, F1.out.below HD.out, F2.out.below HD.out, by rw [← HE.out]; exact HX5.out, bt HBW.out HD.out⟩
            case measure => simp [intOf]; omega
    · have g1 : ¬ (k : Int) < (n : Int) := by omega
      have : k = n := by omega
      subst this
      have k5 := zcells F2.out
      go_wp2_with fail
      refine (vfrac_any HXK.out (by omega)).mono ?_
      rintro e y1 ⟨z1, rfl, hf, hd1⟩
      obtain ⟨fa, fb, fe, rfl⟩ := hf.form3
      have HF := Lib.hid hf
      have hh1 : Held (w.heap.size + 1) 2 TF y1 y1 := (F1.out.below hd1).heldS
      have kf := (F1.out.below hd1).free
      have k1 := (F1.out.below hd1).cells
      simp only [cellsAre, Nat.zero_add, Nat.reduceAdd, and_true] at k1
      have r1 := (rules (w.heap.size + 1) 2 TF y1).some
      have HD := Lib.hid (bt HBW.out hd1)
      clear hf hd1
      go_wp2
      (try simp only [Exit.inBlock, Exit.then])
      refine bodyPost_ret (v := .tuple #[.agg #[.int .i64 fa, .int .i64 fb], .int .i64 fe]) (by simp [results, Try.results44, go_sem, r1 _ hh1]) rfl ?_
      have hst2 := Held.set_ (Held.set_ (hh1.here) 0 (.int .i64 fa)) 1 (.int .i64 fb)
      exact ⟨_, rfl, ⟨fun _ => by rw [HLEN.out, HX.out, HY.out]; exact HF.out, fun hno => absurd HOK.out hno⟩, (hh1.trans2 hst2).below HD.out (by omega)⟩
end Go.Proofs.Tb
