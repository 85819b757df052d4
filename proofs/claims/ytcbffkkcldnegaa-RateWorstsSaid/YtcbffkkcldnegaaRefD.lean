/- Contracts of the reference's numbers of any size, fourth part: Neg, Abs, Sign, Int. -/
import Derived.Test.YtcbffkkcldnegaaRefC
set_option linter.unusedVariables false
set_option linter.unusedSimpArgs false
namespace Go.Proofs.Tb
open Go.RowKit
attribute [local go_sem] cell_set_same

set_option maxHeartbeats 400000 in
theorem zneg_any (v : Value) (z : Int) (w : World) (h : ZI w v z) : Calls Try.prog 118 #[v] w (Ret (fun v w' => ZI w' v (-z)) w) := by
  obtain ⟨A, n, c, rfl, h⟩ := h
  have hp := h.posZ
  have hn := h.le
  have hc := h.cap
  have HH := Lib.hid h
  clear h
  obtain ⟨b, hb⟩ : ∃ b, ng z = b := ⟨_, rfl⟩
  rw [hb]
  have HB := Lib.hid hb
  clear hb
  by_cases h0 : z = 0
  · have hn0 : n = 0 := by omega
    subst hn0
    have hd : decide ((0 : Int) < ((0 : Nat) : Int)) = false := rfl
    have HZ := Lib.hid h0
    clear hp h0
    cases b
    all_goals
      go_enter Try.func118, Try.ntmps118
      go_wp2
      go_returns
      exact ⟨_, rfl, ⟨A, 0, c, by rw [HZ.out]; rfl, by rw [Int.natAbs_neg]; exact HH.out.below (by go_grown)⟩, by go_grown⟩
  · have hn0 : 0 < n := by omega
    have hd : decide ((0 : Int) < (n : Int)) = true := by simp; omega
    have HZ := Lib.hid h0
    clear hp h0
    cases b
    · go_enter Try.func118, Try.ntmps118
      go_wp2
      go_returns
      have e : ng (-z) = true := by have h1 := HB.out; have h2 := HZ.out; unfold ng at *; simp at *; omega
      exact ⟨_, rfl, ⟨A, n, c, by rw [e], by rw [Int.natAbs_neg]; exact HH.out.below (by go_grown)⟩, by go_grown⟩
    · go_enter Try.func118, Try.ntmps118
      go_wp2
      go_returns
      have e : ng (-z) = false := by have h1 := HB.out; have h2 := HZ.out; unfold ng at *; simp at *; omega
      exact ⟨_, rfl, ⟨A, n, c, by rw [e], by rw [Int.natAbs_neg]; exact HH.out.below (by go_grown)⟩, by go_grown⟩

set_option maxHeartbeats 400000 in
theorem zabs_any (v : Value) (z : Int) (w : World) (h : ZI w v z) : Calls Try.prog 103 #[v] w (Ret (fun v w' => ZI w' v (z.natAbs : Int)) w) := by
  obtain ⟨A, n, c, rfl, h⟩ := h
  have HH := Lib.hid h
  clear h
  obtain ⟨b, hb⟩ : ∃ b, ng z = b := ⟨_, rfl⟩
  rw [hb]
  clear hb
  go_enter Try.func103, Try.ntmps103
  go_wp2
  go_returns
  have e : ng (z.natAbs : Int) = false := by unfold ng; simp
  exact ⟨_, rfl, ⟨A, n, c, by rw [e], by rw [Int.natAbs_natCast]; exact HH.out.below (by go_grown)⟩, by go_grown⟩

set_option maxHeartbeats 400000 in
theorem zsign_any (v : Value) (z : Int) (w : World) (h : ZI w v z) : Calls Try.prog 101 #[v] w (Ret (fun v _ => v = .int .i64 z.sign) w) := by
  obtain ⟨A, n, c, rfl, h⟩ := h
  have hp := h.posZ
  have hn := h.le
  have hc := h.cap
  clear h
  by_cases h0 : z = 0
  · have hn0 : n = 0 := by omega
    subst hn0
    clear hp
    have HZ := Lib.hid h0
    clear h0
    go_enter Try.func101, Try.ntmps101
    go_wp2
    go_returns
    exact ⟨_, rfl, by rw [HZ.out]; rfl, by go_grown⟩
  · have hn0 : ((n : Int) == 0) = false := by rw [beq_eq_false_iff_ne]; omega
    clear hp
    obtain ⟨s, hs⟩ : ∃ s, ng z = s := ⟨_, rfl⟩
    rw [hs]
    have HS := Lib.hid hs
    have HZ := Lib.hid h0
    clear hs h0
    cases s
    · go_enter Try.func101, Try.ntmps101
      go_wp2
      go_returns
      exact ⟨_, rfl, by rw [Int.sign_eq_one_of_pos (by have := HZ.out; have := HS.out; unfold ng at this; simp at this; omega)]; rfl, by go_grown⟩
    · go_enter Try.func101, Try.ntmps101
      go_wp2
      go_returns
      exact ⟨_, rfl, by rw [Int.sign_eq_neg_one_of_neg (by have := HS.out; unfold ng at this; simpa using this)]; rfl, by go_grown⟩

theorem dl_i64 (m : Nat) (h : m ≤ 9223372036854775808) : dl BT m ≤ 5 := dl_le BT two_BT 5 m (Nat.lt_of_le_of_lt h (by decide))
theorem digs_step {m q : Nat} {cs : List Nat} (hq : q ≠ 0) (h : digs BT m = cs ++ digs BT q) : digs BT m = cs ++ [q % 10000] ++ digs BT (q / 10000) := by
  rw [h, digs_pos BT q two_BT hq, BT_eq]; simp
set_option maxHeartbeats 1600000 in
set_option maxRecDepth 100000 in
theorem zint_any (z : Int) (w : World) (h1 : -9223372036854775808 ≤ z) (h2 : z ≤ 9223372036854775807) :
    Calls Try.prog 66 #[.int .i64 z] w (Ret (fun v w' => ZI w' v z) w) := by
  by_cases hneg : z < 0
  · obtain ⟨m, rfl⟩ : ∃ m : Nat, z = -(m : Int) := ⟨z.natAbs, by omega⟩
    have hmb : m ≤ 9223372036854775808 := by omega
    have HNG := Lib.hid (show ng (-(m : Int)) = true by unfold ng; simpa using hneg)
    clear h1 h2
    have hm0 : 0 < m := by omega
    have hdl := dl_i64 m (by omega)
    unfold dl at hdl
    have HDL := Lib.hid hdl
    clear hdl
    go_enter Try.func66, Try.ntmps66
    go_wp2
    refine wp_world (fun W0 => Blk W0 w.heap.size TZ #[.bool false, .slice none 0 0] ∧ Blk W0 (w.heap.size + 1) TZ #[.bool true, .slice none 0 0] ∧ Below w.heap.size w W0 ∧ w.heap.size + 1 + 1 ≤ W0.heap.size) (by exact ⟨(Blk.new_ _ _ rfl).alloc _, Blk.new_ _ _ (by simp), by go_grown, by simp⟩) ?_
    rintro W0 ⟨b0, b1, hbw, hsz⟩
    have B0 := Lib.hid b0
    have B1 := Lib.hid b1
    clear b0 b1
    go_loopw [0] (fun x wr => ∃ (q : Nat) (cs : List Nat) (A : Option Addr) (n c : Nat), x = .int .i64 (-(q : Int)) ∧ q ≤ m ∧ digs BT m = cs ++ digs BT q ∧ Blk wr w.heap.size TZ #[.bool false, .slice none 0 0] ∧ Blk wr (w.heap.size + 1) TZ #[.bool true, .slice A n c] ∧ Ow (w.heap.size + 1 + 1) wr (.slice A n c) cs ∧ Below w.heap.size w wr) (fun x _ => (intOf x).natAbs)
    case atStart => exact ⟨m, [], none, 0, 0, rfl, Nat.le_refl _, rfl, B0.out, B1.out, Ow.nil _ _, hbw⟩
    case round =>
      clear B0 B1 hsz hbw
      obtain ⟨q, cs, A, n, c, rfl, hq, hdg, b0, b1, hown, hbw⟩ := hrel
      have k0 := b0.cells
      have k1 := b1.cells
      have f0 := b0.free
      have f1 := b1.free
      have l1 := b1.lt
      simp only [cellsAre, Nat.zero_add, Nat.reduceAdd, and_true] at k0 k1
      have B0 := Lib.hid b0
      have B1 := Lib.hid b1
      have HO := Lib.hid hown
      have HG := Lib.hid hdg
      have hcl : cs.length ≤ 5 := by have := HDL.out; rw [hdg, List.length_append] at this; omega
      have HCL := Lib.hid hcl
      clear b0 b1 hown hdg hcl
      by_cases hq0 : q = 0
      · subst hq0
        go_wp2
        (try simp only [Exit.inBlock, Exit.then])
        refine bodyPost_ret (v := .agg #[.bool true, .slice A n c]) (by simp [results, Try.results66, go_sem, k0, k1]) rfl ?_
        have hF := (((HeldM.mk2 B0.out B1.out).set_ m2_0 0 (.bool true)).set_ m2_0 1 (.slice A n c))
        obtain ⟨A1, n1, c1, he, hsl⟩ := HO.out.sl
        injection he with e1 e2 e3
        subst e1 e2 e3
        have hg := HG.out
        rw [digs_zero, List.append_nil] at hg
        exact ⟨_, rfl, ⟨A, n, c, by rw [HNG.out], by (try rw [Int.natAbs_neg]); rw [Int.natAbs_natCast, LZ, hg]; exact hsl.heldM hF (heldM2_ne (by decide) (by decide))⟩, hF.below hbw (heldM2_ge (by omega) (by omega))⟩
      · have hne : (-(q : Int) != 0) = true := by rw [bne_iff_ne]; omega
        have HQ0 := Lib.hid hq0
        clear hq0
        by_cases hr : (0 : Int) < (q : Int) % 10000
        · go_wp2_with (at_builtin; refine wp_app1 rfl _ _ rfl (w.heap.size + 1 + 1) _ cs rfl HO.out _ (q % 10000) (i64e (by omega)) rfl (by have := HCL.out; omega) (by omega) ?_; intro v' w1 hown1 hb1; obtain ⟨A1, n1, c1, rfl, hsl1⟩ := hown1.sl; have C0 := Lib.hid (B0.out.low hb1 (by omega)); have C1 := Lib.hid (B1.out.low hb1 (by omega)); have HB1 := Lib.hid hb1; have HO1 := Lib.hid hown1; have kk0 := C0.out.cells; have kk1 := C1.out.cells; have ff0 := C0.out.free; have ff1 := C1.out.free; simp only [cellsAre, Nat.zero_add, Nat.reduceAdd, and_true] at kk0 kk1; clear hb1 hsl1 hown1 k0 k1)
          go_roundw
          case rel =>
            refine ⟨q / 10000, cs ++ [q % 10000], A1, n1, c1, i64e (by omega), by omega, digs_step HQ0.out HG.out, C0.out.far (by simp) _, ?_, ownsRow_setCell_below HO1.out (by simp) _, (hbw.trans (HB1.out.mono (by omega))).setCell (by simp) _⟩
            have := C1.out.set_ 1 (.slice A1 n1 c1)
            simpa using this
          case measure => have := HQ0.out; simp [intOf]; omega
        · go_wp2_with (at_builtin; refine wp_app1 rfl _ _ rfl (w.heap.size + 1 + 1) _ cs rfl HO.out _ (q % 10000) (i64e (by omega)) rfl (by have := HCL.out; omega) (by omega) ?_; intro v' w1 hown1 hb1; obtain ⟨A1, n1, c1, rfl, hsl1⟩ := hown1.sl; have C0 := Lib.hid (B0.out.low hb1 (by omega)); have C1 := Lib.hid (B1.out.low hb1 (by omega)); have HB1 := Lib.hid hb1; have HO1 := Lib.hid hown1; have kk0 := C0.out.cells; have kk1 := C1.out.cells; have ff0 := C0.out.free; have ff1 := C1.out.free; simp only [cellsAre, Nat.zero_add, Nat.reduceAdd, and_true] at kk0 kk1; clear hb1 hsl1 hown1 k0 k1)
          go_roundw
          case rel =>
            refine ⟨q / 10000, cs ++ [q % 10000], A1, n1, c1, i64e (by omega), by omega, digs_step HQ0.out HG.out, C0.out.far (by simp) _, ?_, ownsRow_setCell_below HO1.out (by simp) _, (hbw.trans (HB1.out.mono (by omega))).setCell (by simp) _⟩
            have := C1.out.set_ 1 (.slice A1 n1 c1)
            simpa using this
          case measure => have := HQ0.out; simp [intOf]; omega
  · obtain ⟨m, rfl⟩ : ∃ m : Nat, z = (m : Int) := ⟨z.natAbs, by omega⟩
    have hmb : m ≤ 9223372036854775807 := by omega
    have HNG := Lib.hid (show ng (m : Int) = false by unfold ng; simp)
    clear h1 h2 hneg
    have hdl := dl_i64 m (by omega)
    unfold dl at hdl
    have HDL := Lib.hid hdl
    clear hdl
    go_enter Try.func66, Try.ntmps66
    go_wp2
    refine wp_world (fun W0 => Blk W0 w.heap.size TZ #[.bool false, .slice none 0 0] ∧ Blk W0 (w.heap.size + 1) TZ #[.bool false, .slice none 0 0] ∧ Below w.heap.size w W0 ∧ w.heap.size + 1 + 1 ≤ W0.heap.size) (by exact ⟨(Blk.new_ _ _ rfl).alloc _, Blk.new_ _ _ (by simp), by go_grown, by simp⟩) ?_
    rintro W0 ⟨b0, b1, hbw, hsz⟩
    have B0 := Lib.hid b0
    have B1 := Lib.hid b1
    clear b0 b1
    go_loopw [0] (fun x wr => ∃ (q : Nat) (cs : List Nat) (A : Option Addr) (n c : Nat), x = .int .i64 (q : Int) ∧ q ≤ m ∧ digs BT m = cs ++ digs BT q ∧ Blk wr w.heap.size TZ #[.bool false, .slice none 0 0] ∧ Blk wr (w.heap.size + 1) TZ #[.bool false, .slice A n c] ∧ Ow (w.heap.size + 1 + 1) wr (.slice A n c) cs ∧ Below w.heap.size w wr) (fun x _ => (intOf x).natAbs)
    case atStart => exact ⟨m, [], none, 0, 0, rfl, Nat.le_refl _, rfl, B0.out, B1.out, Ow.nil _ _, hbw⟩
    case round =>
      clear B0 B1 hsz hbw
      obtain ⟨q, cs, A, n, c, rfl, hq, hdg, b0, b1, hown, hbw⟩ := hrel
      have k0 := b0.cells
      have k1 := b1.cells
      have f0 := b0.free
      have f1 := b1.free
      have l1 := b1.lt
      simp only [cellsAre, Nat.zero_add, Nat.reduceAdd, and_true] at k0 k1
      have B0 := Lib.hid b0
      have B1 := Lib.hid b1
      have HO := Lib.hid hown
      have HG := Lib.hid hdg
      have hcl : cs.length ≤ 5 := by have := HDL.out; rw [hdg, List.length_append] at this; omega
      have HCL := Lib.hid hcl
      clear b0 b1 hown hdg hcl
      by_cases hq0 : q = 0
      · subst hq0
        go_wp2
        (try simp only [Exit.inBlock, Exit.then])
        refine bodyPost_ret (v := .agg #[.bool false, .slice A n c]) (by simp [results, Try.results66, go_sem, k0, k1]) rfl ?_
        have hF := (((HeldM.mk2 B0.out B1.out).set_ m2_0 0 (.bool false)).set_ m2_0 1 (.slice A n c))
        obtain ⟨A1, n1, c1, he, hsl⟩ := HO.out.sl
        injection he with e1 e2 e3
        subst e1 e2 e3
        have hg := HG.out
        rw [digs_zero, List.append_nil] at hg
        exact ⟨_, rfl, ⟨A, n, c, by rw [HNG.out], by (try rw [Int.natAbs_neg]); rw [Int.natAbs_natCast, LZ, hg]; exact hsl.heldM hF (heldM2_ne (by decide) (by decide))⟩, hF.below hbw (heldM2_ge (by omega) (by omega))⟩
      · have hne : ((q : Int) != 0) = true := by rw [bne_iff_ne]; omega
        have hnn : ¬ (q : Int) % 10000 < 0 := by omega
        have HQ0 := Lib.hid hq0
        clear hq0
        go_wp2_with (at_builtin; refine wp_app1 rfl _ _ rfl (w.heap.size + 1 + 1) _ cs rfl HO.out _ (q % 10000) (i64e (by omega)) rfl (by have := HCL.out; omega) (by omega) ?_; intro v' w1 hown1 hb1; obtain ⟨A1, n1, c1, rfl, hsl1⟩ := hown1.sl; have C0 := Lib.hid (B0.out.low hb1 (by omega)); have C1 := Lib.hid (B1.out.low hb1 (by omega)); have HB1 := Lib.hid hb1; have HO1 := Lib.hid hown1; have kk0 := C0.out.cells; have kk1 := C1.out.cells; have ff0 := C0.out.free; have ff1 := C1.out.free; simp only [cellsAre, Nat.zero_add, Nat.reduceAdd, and_true] at kk0 kk1; clear hb1 hsl1 hown1 k0 k1)
        go_roundw
        case rel =>
          refine ⟨q / 10000, cs ++ [q % 10000], A1, n1, c1, i64e (by omega), by omega, digs_step HQ0.out HG.out, C0.out.far (by simp) _, ?_, ownsRow_setCell_below HO1.out (by simp) _, (hbw.trans (HB1.out.mono (by omega))).setCell (by simp) _⟩
          have := C1.out.set_ 1 (.slice A1 n1 c1)
          simpa using this
        case measure => have := HQ0.out; simp [intOf]; omega
end Go.Proofs.Tb
