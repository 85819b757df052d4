/- RateShifts, the walk: a line added to all readings is added to the lines of Squares, Median and Least; Least's error stays. -/
import Derived.Test.YtcbffkkcldnegaaGreatShf
import Derived.Test.YtcbffkkcldnegaaGreatMov
set_option linter.unusedVariables false
set_option linter.unusedSimpArgs false
namespace Go.Proofs.Tb
open Go.RowKit
attribute [local go_sem] cell_set_same

abbrev TNT : TypeId := 3
/-- Two lines, of which the second is the first one with a line added. -/
def MvOk (a1 a2 a3 a4 c1 c2 c3 c4 b s : Int) : Prop := FOk a1 a2 ∧ FOk a3 a4 ∧ FOk c1 c2 ∧ FOk c3 c4 ∧ qv a1 a2 + (b : Rat) = qv c1 c2 ∧ qv a3 a4 + (s : Rat) = qv c3 c4
theorem fok {x : Rat} (h : fitQ x) : FOk x.num (x.den : Int) := by
  obtain ⟨h1, ⟨h2, h3⟩, h4, h5, h6⟩ := fit_vf2 h
  exact ⟨vF_true h1, h2, h3, h4, h5, h6⟩
theorem MvOk.mk {x y x' y' : Rat} {b s : Int} (f1 : fitQ x) (f2 : fitQ y) (f3 : fitQ x') (f4 : fitQ y') (h1 : x' = x + (b : Rat)) (h2 : y' = y + (s : Rat)) :
    MvOk x.num (x.den : Int) y.num (y.den : Int) x'.num (x'.den : Int) y'.num (y'.den : Int) b s :=
  ⟨fok f1, fok f2, fok f3, fok f4, by rw [qv_self, qv_self, h1], by rw [qv_self, qv_self, h2]⟩
theorem MvOk.calls {a1 a2 a3 a4 c1 c2 c3 c4 b s : Int} (h : MvOk a1 a2 a3 a4 c1 c2 c3 c4 b s) (hb : -99 ≤ b ∧ b ≤ 99) (hs : -999 ≤ s ∧ s ≤ 999) {p4 p5 : Nat} {w : World} (h4 : Blk w p4 TNT #[.int .i64 b]) (h5 : Blk w p5 TNT #[.int .i64 s]) :
    Calls Tryz.prog 22 #[.agg #[.int .i64 a1, .int .i64 a2, .int .i64 a3, .int .i64 a4], .agg #[.int .i64 c1, .int .i64 c2, .int .i64 c3, .int .i64 c4], .pointer (some ⟨p4, 0, none⟩), .pointer (some ⟨p5, 0, none⟩)] w (Ret (fun v _ => v = .bool true) w) := by
  obtain ⟨f1, f2, f3, f4, e1, e2⟩ := h
  have k4 := h4.cells
  have k5 := h5.cells
  exact moved_any a1 a2 a3 a4 c1 c2 c3 c4 b s p4 p5 w f1 f2 f3 f4 hb hs e1 e2 k4.1 k5.1
/-- What the numbers of a line are returned as. -/
def LnV (x y : Rat) (v : Value) : Prop := v = .tuple #[.agg #[.int .i64 x.num, .int .i64 (x.den : Int), .int .i64 y.num, .int .i64 (y.den : Int)], .int .i64 0]
theorem two_one (a b : Value) (h1 : a.oneCell' = true) (h2 : b.oneCell' = true) : ∀ u, u ∈ [a, b] → u.oneCell' = true := fun u hu => by
  simp only [List.mem_cons, List.not_mem_nil, or_false] at hu
  rcases hu with rfl | rfl <;> assumption
/-- Readings lie in no block of one cell. -/
theorem Rd.ne_one {w : World} {b o n c t : Nat} {rs : List Rdg} {T : TypeId} {v : Value} (h : Rd w (some ⟨b, o, none⟩) n c rs) (h0 : 0 < n) (hb : Blk w t T #[v]) : b ≠ t := by
  intro e
  subst e
  obtain ⟨b', o', hA, hc⟩ := h.at_ h0
  injection hA with hA
  injection hA with h1 h2
  subst h1 h2
  have h3 := (hc 0 h0).2
  rw [cell_of_row w b (o + 0 * 2 + 1) #[v] T (0, 0) hb] at h3
  simp at h3
theorem Rd.held_ne {W0 w : World} {b o n c R k : Nat} {rs : List Rdg} {T : TypeId} (h : Rd W0 (some ⟨b, o, none⟩) n c rs) (hh : Held R k T W0 w) (hne : b ≠ R) : Rd w (some ⟨b, o, none⟩) n c rs := by
  refine ⟨h.len, h.le, h.cap, fun h0 => ?_, h.rng⟩
  obtain ⟨b', o', hA, hc⟩ := h.at_ h0
  refine ⟨b', o', hA, fun j hj => ?_⟩
  injection hA with hA
  injection hA with h1 h2
  subst h1 h2
  have g := hc j hj
  have hblk : w.heap[b]? = W0.heap[b]? := hh.g.block b (World.block_lt_of_cell? W0 _ g.1) (fun e => hne (by injection e))
  exact ⟨(World.cell?_of_block (w := W0) (a := ⟨b, o + j * 2, none⟩) hblk).trans g.1, (World.cell?_of_block (w := W0) (a := ⟨b, o + j * 2 + 1, none⟩) hblk).trans g.2⟩

set_option maxHeartbeats 6400000 in
set_option maxRecDepth 100000 in
theorem shifts_any (A : Option Addr) (n c : Nat) (xs : List Rdg) (bx sx : Int) (w : World) (h : Rd w A n c xs) (hbx : rngI bx) (hsx : rngI sx) :
    Calls Tryz.prog 5 #[.slice A n c, .int .i64 bx, .int .i64 sx] w (Ret (fun v _ => v = .bool true) w) := by
  have H := Lib.hid h
  obtain ⟨bb, hbb⟩ : ∃ x, bx.tmod 100 = x := ⟨_, rfl⟩
  obtain ⟨ss, hss⟩ : ∃ x, sx.tmod 1000 = x := ⟨_, rfl⟩
  have hb : -99 ≤ bb ∧ bb ≤ 99 := by
    have h1 := Int.lt_tmod_of_pos bx (b := 100) (by omega)
    have h2 := Int.tmod_lt_of_pos bx (b := 100) (by omega)
    omega
  have hs : -999 ≤ ss ∧ ss ≤ 999 := by
    have h1 := Int.lt_tmod_of_pos sx (b := 1000) (by omega)
    have h2 := Int.tmod_lt_of_pos sx (b := 1000) (by omega)
    omega
  have HBB := Lib.hid hb
  have HSS := Lib.hid hs
  clear h hbx hsx hb hs
  go_enter Tryz.func5, Tryz.ntmps5
  go_wp2_with fail
  obtain ⟨W0, hW0⟩ : ∃ W0, W0 = (w.alloc (.cells #[.int .i64 bx] TNT)).alloc (.cells #[.int .i64 sx] TNT) := ⟨_, rfl⟩
  have e4 : Blk W0 w.heap.size TNT #[.int .i64 bx] := by rw [hW0]; exact (Blk.new_ _ _ rfl).alloc _
  have e5 : Blk W0 (w.heap.size + 1) TNT #[.int .i64 sx] := by rw [hW0]; exact Blk.new_ _ _ (by simp)
  have hbw : Below w.heap.size w W0 := by rw [hW0]; go_grown
  rw [← hW0]
  clear hW0
  refine (tame_any A n c xs 16 W0 (H.out.below hbw) (by omega)).mono ?_
  rintro e w1 ⟨v1, rfl, ⟨rs, htm, A1, c1, rfl, hrd⟩, hb1⟩
  have HV := Lib.hid (htm.vld (by omega))
  have HSM := Lib.hid (htm.small (by omega))
  have HMV := Lib.hid (htm.mov HBB.out HSS.out)
  obtain ⟨m, hm⟩ : ∃ m, rs.length = m := ⟨_, rfl⟩
  have hm64 : m ≤ 64 := by have := htm.2.1; omega
  have hm2 : 2 ≤ m := by have := htm.1; omega
  have hc1 := hrd.cap
  have hm1 := hrd.le
  have HRNG := Lib.hid (hrd.rngI)
  have HR1 := Lib.hid hrd
  rw [hm] at HR1 hm1 ⊢
  have HM := Lib.hid hm
  have E4 := Lib.hid (e4.below hb1)
  have E5 := Lib.hid (e5.below hb1)
  have HB1 := Lib.hid (bt hbw hb1)
  have k4 := e4.below hb1 |>.cells
  have k5 := e5.below hb1 |>.cells
  have f4 := e4.below hb1 |>.free
  have f5 := e5.below hb1 |>.free
  simp only [cellsAre, Nat.zero_add, Nat.reduceAdd, and_true] at k4 k5
  clear htm hrd hb1 hm e4 e5 hbw
  have nep : w.heap.size ≠ w.heap.size + 1 := by omega
  have nep' := nep.symm
  go_upto_region 2 with fail
  go_big_region
  go_upto_region 3 with fail
  obtain ⟨bA, oA, rfl, _⟩ := HR1.out.at_ (by omega)
  refine wp_world (fun W => Blk W w.heap.size TNT #[.int .i64 bb] ∧ Blk W (w.heap.size + 1) TNT #[.int .i64 ss] ∧ Rd W (some ⟨bA, oA, none⟩) m c1 rs ∧ Below w.heap.size w W)
    (by
      have n4 := HR1.out.ne_one (by omega) E4.out
      have n5 := HR1.out.ne_one (by omega) E5.out
      have h1 : Held w.heap.size 1 TNT w1 (w1.setCell ⟨w.heap.size, 0, none⟩ (.int .i64 bb)) := E4.out.heldS.set_ 0 _
      have G5 := E5.out.held h1 nep'
      have h2 := G5.heldS.set_ 0 (.int .i64 ss)
      have h3 := h2.drew
      exact ⟨((E4.out.set_ 0 (.int .i64 bb)).held h2 nep).drew, (G5.set_ 0 (.int .i64 ss)).drew, (HR1.out.held_ne h1 n4).held_ne h3 n5, h3.below (h1.below HB1.out (Nat.le_refl _)) (by omega)⟩) ?_
  rintro W3 ⟨b4, b5, hr3, hb3⟩
  have B4 := Lib.hid b4
  have B5 := Lib.hid b5
  have HR3 := Lib.hid hr3
  have HB3 := Lib.hid hb3
  clear b4 b5 hr3 hb3 E4 E5 HR1 HB1 k4 k5 f4 f5 nep nep'
  go_wp2_with fail
  have how := OwR.empty W3.heap.size W3 (Nat.le_refl _)
  have hb0 : Below W3.heap.size W3 (W3.alloc (.cells #[] TRD)) := by go_grown
  go_loopw [8, 9] (fun vo iv wr => ∃ i : Nat, iv = .int .i64 (i : Int) ∧ i ≤ m ∧ OwR W3.heap.size wr vo (movR bb ss (rs.take i)) ∧ Below W3.heap.size W3 wr) (fun _ iv _ => m - (intOf iv).toNat)
  case atStart => exact ⟨0, rfl, by omega, how, hb0⟩
  case round =>
    clear how hb0
    obtain ⟨i, rfl, hi, hown, hbw⟩ := hrel
    have HO := Lib.hid hown
    have HBW := Lib.hid hbw
    clear hown hbw
    by_cases him : i < m
    · have g1 : decide ((i : Int) < (m : Int)) = true := by simp; omega
      have hcell := fun W (hh : Below W3.heap.size W3 W) => (show W.cell? ⟨bA, oA + i * 2, none⟩ = some (.int .i64 (tm rs i)) ∧ W.cell? ⟨bA, oA + i * 2 + 1, none⟩ = some (.int .i64 (ofs rs i)) from by
        obtain ⟨b', o', hA, hc⟩ := (HR3.out.below hh).at_ (by omega)
        injection hA with hA
        injection hA with h1 h2
        subst h1 h2
        exact hc i him)
      have hbd := HMV.out.2.2 i (by rw [HM.out]; exact him)
      have htk := movR_take (b := bb) (s := ss) (rs := rs) i (by rw [HM.out]; exact him)
      have htk : movR bb ss (rs.take (i + 1)) = movR bb ss (rs.take i) ++ [(tm rs i, ofs rs i + bb * tm rs i + ss)] := htk
      have HLT : Hid ((movR bb ss (rs.take i)).length = i) := by rw [movR_len, List.length_take]; exact (show _ = _ by have := HM.out; omega)
      obtain ⟨x1, hx1⟩ : ∃ x, tm rs i = x := ⟨_, rfl⟩
      obtain ⟨x2, hx2⟩ : ∃ x, ofs rs i = x := ⟨_, rfl⟩
      rw [hx1, hx2] at hcell hbd htk
      have HTK := Lib.hid htk
      have kr := fun w' (hh : Ext wr w') => hcell w' (bt HBW.out hh)
      have k4 := fun w' (hh : Ext wr w') => (B4.out.below (bt HBW.out hh)).cells
      have k5 := fun w' (hh : Ext wr w') => (B5.out.below (bt HBW.out hh)).cells
      simp only [cellsAre, Nat.zero_add, Nat.reduceAdd, and_true] at k4 k5
      have wq1 : IntKind.i64.wrap (bb * x1) = bb * x1 := IntWalk.i64_in _ (by omega)
      have wq2 : IntKind.i64.wrap (x2 + bb * x1) = x2 + bb * x1 := IntWalk.i64_in _ (by omega)
      have wq3 : IntKind.i64.wrap (x2 + bb * x1 + ss) = x2 + bb * x1 + ss := IntWalk.i64_in _ (by omega)
      have pi_ : (i : Int) < (m : Int) := by omega
      have hst : Ext wr wr.drew := Ext.drew _
      clear hcell hbd htk hx1 hx2
      go_upto_region 7 with fail
      clear g1
      refine wp_region_adv 23 [] [(0, true, some 38, none), (1, true, some 39, none), (2, true, some 40, none), (3, true, some 41, none), (4, true, some 42, none), (5, true, some 43, none), (6, true, some 44, none), (7, true, some 45, none), (8, true, some 46, none), (9, true, some 47, none), (10, true, some 48, none), (11, true, some 49, none), (12, true, some 50, none), (13, true, some 51, none), (14, true, some 52, none), (15, true, some 53, none), (16, true, some 54, none), (17, true, some 55, none), (18, true, some 56, none), (19, true, some 57, none), (20, true, some 58, none), (21, true, some 59, none), (22, false, some 60, none)] (by kernel_rfl) (by kernel_rfl) (by kernel_rfl) (by intro it hit; (repeat (rcases List.mem_cons.1 hit with rfl | hit; (focus (intro o ho ev w; injection ho with ho; subst ho; kernel_rfl)))); cases hit) (fun _ _ _ _ _ => ⟨fun h => h, fun h => h⟩) hst ?_
      repeat (first | (refine wpSeq_pure (v := ?_) rfl ?_ ?_; rotate_left 1; (focus (intro wq_ hSq_; (try dsimp only at hSq_); go_simp; (try with_reducible rfl); done)); (try simp only [Act.put, List.setIfInBounds_toArray, List.set_cons_zero, List.set_cons_succ])) | (refine wpSeq_pureG (v := ?_) rfl rfl ?_ ?_; rotate_left 1; (focus (intro wq_ hSq_; (try dsimp only at hSq_); go_simp; (try with_reducible rfl); done)); (try simp only [Act.put, List.setIfInBounds_toArray, List.set_cons_zero, List.set_cons_succ])) | (refine wpSeq_off rfl rfl ?_; (try simp only [Act.put, List.setIfInBounds_toArray, List.set_cons_zero, List.set_cons_succ])))
      first | refine wpSeq_call rfl (fun u2 g2 s2 K hK => ?_) | refine wpSeq_callG rfl rfl (fun u2 g2 s2 K hK => ?_)
      go_simp
      (try go_wp2_with fail)
      refine hK.out _ _ (Ext.allocR _ _) ?_
      clear hK K
      (try simp only [Act.put, List.setIfInBounds_toArray, List.set_cons_zero, List.set_cons_succ])
      repeat (first | (refine wpSeq_pure (v := ?_) rfl ?_ ?_; rotate_left 1; (focus (intro wq_ hSq_; (try dsimp only at hSq_); go_simp; (try with_reducible rfl); done)); (try simp only [Act.put, List.setIfInBounds_toArray, List.set_cons_zero, List.set_cons_succ])) | (refine wpSeq_pureG (v := ?_) rfl rfl ?_ ?_; rotate_left 1; (focus (intro wq_ hSq_; (try dsimp only at hSq_); go_simp; (try with_reducible rfl); done)); (try simp only [Act.put, List.setIfInBounds_toArray, List.set_cons_zero, List.set_cons_succ])) | (refine wpSeq_off rfl rfl ?_; (try simp only [Act.put, List.setIfInBounds_toArray, List.set_cons_zero, List.set_cons_succ])))
      intro wz gz sz_
      (try simp only [endJ, List.drop_succ_cons, List.drop_zero])
      have HZ := Lib.hid (show Ext wr wz from sz_)
      have HBN := Lib.hid (show Blk wz u2.heap.size TRD #[.int .i64 x1, .int .i64 (x2 + bb * x1 + ss)] from (Blk.new_ TRD #[.int .i64 x1, .int .i64 (x2 + bb * x1 + ss)] rfl).below gz)
      have hz : W3.heap.size ≤ wz.heap.size := (bt HBW.out HZ.out).size
      clear hst kr k4 k5 g2 s2 gz sz_ wq1 wq2 wq3
      go_wp2_with (at_builtin; refine wp_appE TRS TRD _ 2 16 rdg_info Tryz.underlying22 rfl (by omega) (by omega) rfl _ _ rfl W3.heap.size _ _ _ rfl (own_below HO.out HZ.out) ⟨u2.heap.size, 0, none⟩ 1 1 [.int .i64 x1, .int .i64 (x2 + bb * x1 + ss)] rfl rfl (blk_cells HBN.out) (two_one _ _ rfl rfl) (by have := HLT.out; omega) (by omega) hz ?_; intro v3 w4 hown3 hb3 _)
      have HN : OwR W3.heap.size w4 v3 (movR bb ss (rs.take (i + 1))) := by
        rw [HTK.out]
        unfold OwR
        rw [rc_append, List.length_append]
        exact hown3
      have HN2 := (bt HBW.out HZ.out).trans hb3
      clear hown3 hb3 HO HZ HBN HBW HLT HTK
      go_roundw
      case rel => exact ⟨i + 1, by go_num, by omega, HN, HN2⟩
      case measure => simp [intOf]; omega
    · have him2 : i = m := by omega
      subst him2
      have g1 : decide ((i : Int) < (i : Int)) = false := by simp
      have hO := HO.out
      rw [List.take_of_length_le (by have := HM.out; omega)] at hO
      obtain ⟨hv2, hsm2, _⟩ := HMV.out
      have hrg : ∀ x, x ∈ movR bb ss rs → rngI x.1 ∧ rngI x.2 := fun x hx => by
        obtain ⟨k, hk, rfl⟩ := List.mem_iff_getElem.1 hx
        have h1 := hv2.tm_bd hk
        have e : (movR bb ss rs).getD k (0, 0) = (movR bb ss rs)[k] := by simp [List.getD, hk]
        unfold tm ofs at h1
        rw [e] at h1
        unfold rngI; omega
      obtain ⟨A2, c2, hA2, hr2⟩ := hO.rd hrg
      have hl2 : (movR bb ss rs).length = i := by rw [movR_len]; exact HM.out
      rw [hl2] at hA2 hr2
      subst hA2
      have hc2 := hr2.cap
      have hn2 := hr2.le
      have HV2 := Lib.hid hv2
      have HSM2 := Lib.hid hsm2
      have HR2 := Lib.hid hr2
      have HR1 := Lib.hid (HR3.out.below HBW.out)
      have B4 := Lib.hid (B4.out.below HBW.out)
      have B5 := Lib.hid (B5.out.below HBW.out)
      have HB4 := Lib.hid (bt HB3.out HBW.out)
      clear hO hrg hv2 hsm2 hr2 hl2 HO HBW HR3 HB3 him
      obtain ⟨W4, hW4⟩ : ∃ W, W = wr := ⟨_, rfl⟩
      subst hW4
      go_wp2_with fail
      clear g1
      have HQ1 : Hid (∀ W, Below W4.heap.size W4 W → Calls Tryz.prog 7 #[.slice (some ⟨bA, oA, none⟩) i c1] W (Ret (fun v _ => LnV (sqS rs) (sqH rs) v) W)) := fun W hW => (rsquares_any _ i c1 rs W (HR1.out.below hW)).mono (by rintro e w' ⟨v, he, hv, hb⟩; exact ⟨v, he, (hv.q HV.out).1 (sq_fit HV.out HSM.out), hb⟩)
      have HQ2 : Hid (∀ W, Below W4.heap.size W4 W → Calls Tryz.prog 7 #[.slice A2 i c2] W (Ret (fun v _ => LnV (sqS (movR bb ss rs)) (sqH (movR bb ss rs)) v) W)) := fun W hW => (rsquares_any _ i c2 _ W (HR2.out.below hW)).mono (by rintro e w' ⟨v, he, hv, hb⟩; exact ⟨v, he, (hv.q HV2.out).1 (sq_fit HV2.out HSM2.out), hb⟩)
      have HM1 : Hid (∀ W, Below W4.heap.size W4 W → Calls Tryz.prog 8 #[.slice (some ⟨bA, oA, none⟩) i c1] W (Ret (fun v _ => LnV (medS rs) (medH rs) v) W)) := fun W hW => (rmedian_any _ i c1 rs W (HR1.out.below hW)).mono (by rintro e w' ⟨v, he, hv, hb⟩; exact ⟨v, he, (hv.2 HV.out).1 (med_fit HV.out HSM.out), hb⟩)
      have HM2 : Hid (∀ W, Below W4.heap.size W4 W → Calls Tryz.prog 8 #[.slice A2 i c2] W (Ret (fun v _ => LnV (medS (movR bb ss rs)) (medH (movR bb ss rs)) v) W)) := fun W hW => (rmedian_any _ i c2 _ W (HR2.out.below hW)).mono (by rintro e w' ⟨v, he, hv, hb⟩; exact ⟨v, he, (hv.2 HV2.out).1 (med_fit HV2.out HSM2.out), hb⟩)
      obtain ⟨fs1, fs2⟩ := sq_fit HV.out HSM.out
      obtain ⟨fs3, fs4⟩ := sq_fit HV2.out HSM2.out
      obtain ⟨fm1, fm2⟩ := med_fit HV.out HSM.out
      obtain ⟨fm3, fm4⟩ := med_fit HV2.out HSM2.out
      have KS := Lib.hid (MvOk.mk fs1 fs2 fs3 fs4 (sqS_mov HV.out) (sqH_mov HV.out))
      have KM := Lib.hid (MvOk.mk fm1 fm2 fm3 fm4 (medS_mov HV.out) (medH_mov HV.out))
      clear fs1 fs2 fs3 fs4 fm1 fm2 fm3 fm4
      unfold LnV at HQ1 HQ2 HM1 HM2
      obtain ⟨sa1, h1_⟩ : ∃ x, (sqS rs).num = x := ⟨_, rfl⟩
      obtain ⟨sa2, h2_⟩ : ∃ x : Int, ((sqS rs).den : Int) = x := ⟨_, rfl⟩
      obtain ⟨sa3, h3_⟩ : ∃ x, (sqH rs).num = x := ⟨_, rfl⟩
      obtain ⟨sa4, h4_⟩ : ∃ x : Int, ((sqH rs).den : Int) = x := ⟨_, rfl⟩
      rw [h1_, h2_, h3_, h4_] at HQ1 KS
      clear h1_ h2_ h3_ h4_
      obtain ⟨sb1, h1_⟩ : ∃ x, (sqS (movR bb ss rs)).num = x := ⟨_, rfl⟩
      obtain ⟨sb2, h2_⟩ : ∃ x : Int, ((sqS (movR bb ss rs)).den : Int) = x := ⟨_, rfl⟩
      obtain ⟨sb3, h3_⟩ : ∃ x, (sqH (movR bb ss rs)).num = x := ⟨_, rfl⟩
      obtain ⟨sb4, h4_⟩ : ∃ x : Int, ((sqH (movR bb ss rs)).den : Int) = x := ⟨_, rfl⟩
      rw [h1_, h2_, h3_, h4_] at HQ2 KS
      clear h1_ h2_ h3_ h4_
      obtain ⟨ma1, h1_⟩ : ∃ x, (medS rs).num = x := ⟨_, rfl⟩
      obtain ⟨ma2, h2_⟩ : ∃ x : Int, ((medS rs).den : Int) = x := ⟨_, rfl⟩
      obtain ⟨ma3, h3_⟩ : ∃ x, (medH rs).num = x := ⟨_, rfl⟩
      obtain ⟨ma4, h4_⟩ : ∃ x : Int, ((medH rs).den : Int) = x := ⟨_, rfl⟩
      rw [h1_, h2_, h3_, h4_] at HM1 KM
      clear h1_ h2_ h3_ h4_
      obtain ⟨mb1, h1_⟩ : ∃ x, (medS (movR bb ss rs)).num = x := ⟨_, rfl⟩
      obtain ⟨mb2, h2_⟩ : ∃ x : Int, ((medS (movR bb ss rs)).den : Int) = x := ⟨_, rfl⟩
      obtain ⟨mb3, h3_⟩ : ∃ x, (medH (movR bb ss rs)).num = x := ⟨_, rfl⟩
      obtain ⟨mb4, h4_⟩ : ∃ x : Int, ((medH (movR bb ss rs)).den : Int) = x := ⟨_, rfl⟩
      rw [h1_, h2_, h3_, h4_] at HM2 KM
      clear h1_ h2_ h3_ h4_
      have HB0 : Hid (Below W4.heap.size W4 W4) := Below.refl _ _
      refine (HQ1.out W4 HB0.out).mono ?_
      rintro e q1 ⟨v1, rfl, hv1, hb1⟩
      subst hv1
      have BY1 := Lib.hid (bt HB0.out hb1)
      clear hb1
      go_upto_region 10 with fail
      refine wp_world (fun W => Blk W q1.heap.size TAL #[.int .i64 sa1, .int .i64 sa2, .int .i64 sa3, .int .i64 sa4] ∧ Below q1.heap.size q1 W) (by exact ⟨Blk.new_ _ _ rfl, by go_grown⟩) ?_
      rintro W1 ⟨d_, x_⟩
      have D1 := Lib.hid d_
      have BX1 := Lib.hid x_
      have HB1' := Lib.hid (bt BY1.out x_)
      clear d_ x_ BY1
      go_wp2_with fail
      refine (HQ2.out W1 HB1'.out).mono ?_
      rintro e q2 ⟨v2, rfl, hv2, hb2⟩
      have D1 := Lib.hid (D1.out.below hb2)
      subst hv2
      have BY2 := Lib.hid (bt HB1'.out hb2)
      clear hb2
      go_upto_region 11 with fail
      refine wp_world (fun W => Blk W q2.heap.size TAL #[.int .i64 sb1, .int .i64 sb2, .int .i64 sb3, .int .i64 sb4] ∧ Below q2.heap.size q2 W) (by exact ⟨Blk.new_ _ _ rfl, by go_grown⟩) ?_
      rintro W2 ⟨d_, x_⟩
      have D2 := Lib.hid d_
      have BX2 := Lib.hid x_
      have HB2' := Lib.hid (bt BY2.out x_)
      clear d_ x_ BY2
      have D1 := Lib.hid (D1.out.below BX2.out)
      go_wp2_with fail
      refine (HM1.out W2 HB2'.out).mono ?_
      rintro e q3 ⟨v3, rfl, hv3, hb3⟩
      have D1 := Lib.hid (D1.out.below hb3)
      have D2 := Lib.hid (D2.out.below hb3)
      subst hv3
      have BY3 := Lib.hid (bt HB2'.out hb3)
      clear hb3
      go_upto_region 12 with fail
      refine wp_world (fun W => Blk W q3.heap.size TAL #[.int .i64 ma1, .int .i64 ma2, .int .i64 ma3, .int .i64 ma4] ∧ Below q3.heap.size q3 W) (by exact ⟨Blk.new_ _ _ rfl, by go_grown⟩) ?_
      rintro W3 ⟨d_, x_⟩
      have D3 := Lib.hid d_
      have BX3 := Lib.hid x_
      have HB3' := Lib.hid (bt BY3.out x_)
      clear d_ x_ BY3
      have D1 := Lib.hid (D1.out.below BX3.out)
      have D2 := Lib.hid (D2.out.below BX3.out)
      go_wp2_with fail
      refine (HM2.out W3 HB3'.out).mono ?_
      rintro e q4 ⟨v4, rfl, hv4, hb4⟩
      have D1 := Lib.hid (D1.out.below hb4)
      have D2 := Lib.hid (D2.out.below hb4)
      have D3 := Lib.hid (D3.out.below hb4)
      subst hv4
      have BY4 := Lib.hid (bt HB3'.out hb4)
      clear hb4
      go_upto_region 13 with fail
      refine wp_world (fun W => Blk W q4.heap.size TAL #[.int .i64 mb1, .int .i64 mb2, .int .i64 mb3, .int .i64 mb4] ∧ Below q4.heap.size q4 W) (by exact ⟨Blk.new_ _ _ rfl, by go_grown⟩) ?_
      rintro W4 ⟨d_, x_⟩
      have D4 := Lib.hid d_
      have BX4 := Lib.hid x_
      have HB4' := Lib.hid (bt BY4.out x_)
      clear d_ x_ BY4
      have D1 := Lib.hid (D1.out.below BX4.out)
      have D2 := Lib.hid (D2.out.below BX4.out)
      have D3 := Lib.hid (D3.out.below BX4.out)
      clear HQ1 HQ2 HM1 HM2 HB0 HB1' HB2' HB3' BX1 BX2 BX3 BX4
      go_wp2_with fail
      refine (rleast_any _ i c1 rs _ (HR1.out.below HB4'.out)).mono ?_
      rintro e q5 ⟨v5, rfl, h5, hb5⟩
      obtain ⟨s, h, E, hi1, f1, f2, f3, hv5⟩ := h5.ok HV.out HSM.out
      have KLS : Hid (∀ v w', LeastR (movR bb ss rs) v w' → ∃ l1 l2 l3 l4, MvOk s.num (s.den : Int) h.num (h.den : Int) l1 l2 l3 l4 bb ss ∧ v = .tuple #[.agg #[.int .i64 l1, .int .i64 l2, .int .i64 l3, .int .i64 l4], .agg #[.int .i64 E.num, .int .i64 (E.den : Int)], .int .i64 0]) := fun v w' hl => by
        obtain ⟨s', h', E', hi2, g1, g2, g3, hv⟩ := hl.ok HV2.out HSM2.out
        obtain ⟨es, eh, eE⟩ := (least_mov (b := bb) (s := ss) hi1).uniq HV2.out.tq_mono HV2.out.1 hi2
        refine ⟨_, _, _, _, MvOk.mk f1 f2 g1 g2 es.symm eh.symm, ?_⟩
        rw [hv, eE]
      obtain ⟨la1, h1_⟩ : ∃ x, (s).num = x := ⟨_, rfl⟩
      obtain ⟨la2, h2_⟩ : ∃ x : Int, ((s).den : Int) = x := ⟨_, rfl⟩
      obtain ⟨la3, h3_⟩ : ∃ x, (h).num = x := ⟨_, rfl⟩
      obtain ⟨la4, h4_⟩ : ∃ x : Int, ((h).den : Int) = x := ⟨_, rfl⟩
      obtain ⟨en, h5_⟩ : ∃ x, (E).num = x := ⟨_, rfl⟩
      obtain ⟨ed, h6_⟩ : ∃ x : Int, ((E).den : Int) = x := ⟨_, rfl⟩
      rw [h1_, h2_, h3_, h4_, h5_, h6_] at hv5 KLS
      clear h1_ h2_ h3_ h4_ h5_ h6_
      subst hv5
      have BY5 := Lib.hid (bt HB4'.out hb5)
      have D1 := Lib.hid (D1.out.below hb5)
      have D2 := Lib.hid (D2.out.below hb5)
      have D3 := Lib.hid (D3.out.below hb5)
      have D4 := Lib.hid (D4.out.below hb5)
      clear h5 hi1 f1 f2 f3 hb5
      go_upto_region 14 with fail
      refine wp_world (fun W => Blk W q5.heap.size TAL #[.int .i64 la1, .int .i64 la2, .int .i64 la3, .int .i64 la4] ∧ Blk W (q5.heap.size + 1) TF #[.int .i64 en, .int .i64 ed] ∧ Below q5.heap.size q5 W) (by exact ⟨(Blk.new_ _ _ rfl).alloc _, Blk.new_ _ _ (by simp), by go_grown⟩) ?_
      rintro W5 ⟨d5_, d6_, x_⟩
      have D5 := Lib.hid d5_
      have D6 := Lib.hid d6_
      have D1 := Lib.hid (D1.out.below x_)
      have D2 := Lib.hid (D2.out.below x_)
      have D3 := Lib.hid (D3.out.below x_)
      have D4 := Lib.hid (D4.out.below x_)
      have HB5' := Lib.hid (bt BY5.out x_)
      clear d5_ d6_ x_ BY5
      go_wp2_with fail
      refine (rleast_any _ i c2 _ _ (HR2.out.below HB5'.out)).mono ?_
      rintro e q6 ⟨v6, rfl, h6, hb6⟩
      obtain ⟨lb1, lb2, lb3, lb4, kl, hv6⟩ := KLS.out _ _ h6
      subst hv6
      have KL := Lib.hid kl
      have BY6 := Lib.hid (bt HB5'.out hb6)
      have D1 := Lib.hid (D1.out.below hb6)
      have D2 := Lib.hid (D2.out.below hb6)
      have D3 := Lib.hid (D3.out.below hb6)
      have D4 := Lib.hid (D4.out.below hb6)
      have D5 := Lib.hid (D5.out.below hb6)
      have D6 := Lib.hid (D6.out.below hb6)
      clear h6 kl hb6 KLS
      go_upto_region 15 with fail
      refine wp_world (fun W => Blk W q6.heap.size TAL #[.int .i64 lb1, .int .i64 lb2, .int .i64 lb3, .int .i64 lb4] ∧ Blk W (q6.heap.size + 1) TF #[.int .i64 en, .int .i64 ed] ∧ Below q6.heap.size q6 W) (by exact ⟨(Blk.new_ _ _ rfl).alloc _, Blk.new_ _ _ (by simp), by go_grown⟩) ?_
      rintro W6 ⟨d7_, d8_, x_⟩
      have D7 := Lib.hid d7_
      have D8 := Lib.hid d8_
      have D1 := Lib.hid (D1.out.below x_)
      have D2 := Lib.hid (D2.out.below x_)
      have D3 := Lib.hid (D3.out.below x_)
      have D4 := Lib.hid (D4.out.below x_)
      have D5 := Lib.hid (D5.out.below x_)
      have D6 := Lib.hid (D6.out.below x_)
      have HB6' := Lib.hid (bt BY6.out x_)
      have B4 := Lib.hid (B4.out.below HB6'.out)
      have B5 := Lib.hid (B5.out.below HB6'.out)
      have HBT := Lib.hid (bt HB4.out HB6'.out)
      have k11 := zcells D1.out
      have k13 := zcells D2.out
      clear d7_ d8_ x_ BY6 HB5' HB4' HB6' HR1 HR2 HB4
      go_wp2_with fail
      refine (KS.out.calls HBB.out HSS.out B4.out B5.out).mono ?_
      rintro e r1 ⟨v7, rfl, hv7, hb7⟩
      subst hv7
      have k15 := zcells (D3.out.below hb7)
      have k17 := zcells (D4.out.below hb7)
      clear k11 k13
      go_wp2_with fail
      refine (KM.out.calls HBB.out HSS.out (B4.out.below hb7) (B5.out.below hb7)).mono ?_
      rintro e r2 ⟨v8, rfl, hv8, hb8⟩
      subst hv8
      have k19 := zcells ((D5.out.below hb7).below hb8)
      have k22 := zcells ((D7.out.below hb7).below hb8)
      clear k15 k17
      go_wp2_with fail
      refine (KL.out.calls HBB.out HSS.out ((B4.out.below hb7).below hb8) ((B5.out.below hb7).below hb8)).mono ?_
      rintro e r3 ⟨v9, rfl, hv9, hb9⟩
      subst hv9
      have k20 := (((D6.out.below hb7).below hb8).below hb9).cells
      have k23 := (((D8.out.below hb7).below hb8).below hb9).cells
      simp only [cellsAre, Nat.zero_add, Nat.reduceAdd, and_true] at k20 k23
      have HBE := Lib.hid (bt HBT.out (bt hb7 (bt hb8 hb9)))
      clear k19 k22 hb7 hb8 hb9
      go_wp2_with fail
      refine (lives_any _).mono ?_
      rintro e r4 ⟨v10, rfl, hv10, hb10⟩
      subst hv10
      go_wp2
      go_returns
      exact ⟨_, rfl, rfl, bt HBE.out hb10⟩
end Go.Proofs.Tb
