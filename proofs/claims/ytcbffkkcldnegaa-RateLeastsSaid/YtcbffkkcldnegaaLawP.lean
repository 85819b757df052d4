/- RateLeasts, the walk: Least and Witnesses return what the reference names. -/
import Derived.Test.YtcbffkkcldnegaaWit2
import Derived.Test.YtcbffkkcldnegaaLawG
import Derived.Test.YtcbffkkcldnegaaRef3
set_option linter.unusedVariables false
set_option linter.unusedSimpArgs false
namespace Go.Proofs.Tb
open Go.RowKit
attribute [local go_sem] cell_set_same

theorem LineQ.ex (x y : Rat) : ∃ p1 p2 p3 p4 pe : Int, (∀ v, LineQ x y v → v = .tuple #[.agg #[.int .i64 p1, .int .i64 p2, .int .i64 p3, .int .i64 p4], .int .i64 pe]) ∧
    ((fitQ x ∧ fitQ y ∧ p1 = x.num ∧ p2 = (x.den : Int) ∧ p3 = y.num ∧ p4 = (y.den : Int) ∧ pe = 0) ∨ (¬ (fitQ x ∧ fitQ y) ∧ pe = 5)) := by
  by_cases h : fitQ x ∧ fitQ y
  · exact ⟨_, _, _, _, _, fun v hl => hl.1 h, Or.inl ⟨h.1, h.2, rfl, rfl, rfl, rfl, rfl⟩⟩
  · exact ⟨_, _, _, _, _, fun v hl => hl.2 h, Or.inr ⟨h, rfl⟩⟩
theorem FracQ.ex (x : Rat) : ∃ p1 p2 pe : Int, (∀ v, FracQ x v → v = .tuple #[.agg #[.int .i64 p1, .int .i64 p2], .int .i64 pe]) ∧ ((fitQ x ∧ p1 = x.num ∧ p2 = (x.den : Int) ∧ pe = 0) ∨ (¬ fitQ x ∧ pe = 5)) := by
  by_cases h : fitQ x
  · exact ⟨_, _, _, fun v hl => hl.1 h, Or.inl ⟨h, rfl, rfl, rfl⟩⟩
  · exact ⟨_, _, _, fun v hl => hl.2 h, Or.inr ⟨h, rfl⟩⟩
/-- What Least returns, beside the reference's two answers. -/
theorem LeastV.three {rs : List Rdg} {v : Value} {w : World} (hv : Vld rs) (h : LeastR rs v w) : ∃ (s k E : Rat) (p1 p2 p3 p4 pe q1 q2 qe l1 l2 l3 l4 e1 e2 er : Int), IsLeast rs.length (tq rs) (yq rs) s k E ∧
    (∀ v, LineQ s k v → v = .tuple #[.agg #[.int .i64 p1, .int .i64 p2, .int .i64 p3, .int .i64 p4], .int .i64 pe]) ∧ (∀ v, FracQ E v → v = .tuple #[.agg #[.int .i64 q1, .int .i64 q2], .int .i64 qe]) ∧
    v = .tuple #[.agg #[.int .i64 l1, .int .i64 l2, .int .i64 l3, .int .i64 l4], .agg #[.int .i64 e1, .int .i64 e2], .int .i64 er] ∧
    ((l1 = p1 ∧ l2 = p2 ∧ l3 = p3 ∧ l4 = p4 ∧ e1 = q1 ∧ e2 = q2 ∧ er = 0 ∧ pe = 0 ∧ qe = 0) ∨ ((l1 = 0 ∧ l2 = 0 ∧ l3 = 0 ∧ l4 = 0 ∧ e1 = 0 ∧ e2 = 0 ∧ er = 5) ∧ (pe = 5 ∨ (pe = 0 ∧ qe = 5)))) := by
  obtain ⟨s, k, E, hi, hyes, hno⟩ := LeastV.q hv (h.2 hv)
  obtain ⟨p1, p2, p3, p4, pe, hp, hp'⟩ := LineQ.ex s k
  obtain ⟨q1, q2, qe, hq, hq'⟩ := FracQ.ex E
  by_cases hf : fitQ s ∧ fitQ k ∧ fitQ E
  · rcases hp' with ⟨_, _, rfl, rfl, rfl, rfl, rfl⟩ | ⟨h0, _⟩
    · rcases hq' with ⟨_, rfl, rfl, rfl⟩ | ⟨h0, _⟩
      · exact ⟨s, k, E, _, _, _, _, _, _, _, _, _, _, _, _, _, _, _, hi, hp, hq, hyes hf, Or.inl ⟨rfl, rfl, rfl, rfl, rfl, rfl, rfl, rfl, rfl⟩⟩
      · exact absurd hf.2.2 h0
    · exact absurd ⟨hf.1, hf.2.1⟩ h0
  · refine ⟨s, k, E, _, _, _, _, _, _, _, _, _, _, _, _, _, _, _, hi, hp, hq, hno hf, Or.inr ⟨⟨rfl, rfl, rfl, rfl, rfl, rfl, rfl⟩, ?_⟩⟩
    rcases hp' with ⟨f1, f2, _, _, _, _, rfl⟩ | ⟨h0, rfl⟩
    · rcases hq' with ⟨f3, _⟩ | ⟨_, rfl⟩
      · exact absurd ⟨f1, f2, f3⟩ hf
      · exact Or.inr ⟨rfl, rfl⟩
    · exact Or.inl rfl
theorem WitR.vld {rs : List Rdg} {v : Value} {w : World} (hv : Vld rs) (h : WitR rs v w) : ∃ A n c ws, v = .tuple #[.slice A n c, .int .i64 0] ∧ Il w A n c ws ∧
    ∀ x y E ws', IsLeast rs.length (tq rs) (yq rs) x y E → FirstAlt rs rs.length x y E ws' → ws = ws' := by
  obtain ⟨a, b, c, off, run, hg, h0, h1⟩ := h.2 hv
  by_cases ho : off = 0
  · exact ⟨none, 0, 0, [], h0 ho, Il.nil _, fun x y E ws' hi hf => ((hf.eq hv hg hi).1 ho).symm⟩
  · obtain ⟨A, cc, hv', hil⟩ := h1 ho
    exact ⟨A, 3, cc, _, hv', hil, fun x y E ws' hi hf => ((hf.eq hv hg hi).2 ho).symm⟩

set_option maxHeartbeats 6400000 in
set_option maxRecDepth 100000 in
theorem leasts_any (A : Option Addr) (n c : Nat) (xs : List Rdg) (w : World) (h : Rd w A n c xs) :
    Calls Try.prog 6 #[.slice A n c] w (Ret (fun v _ => v = .bool true) w) := by
  have H := Lib.hid h
  clear h
  go_enter Try.func6, Try.ntmps6
  go_wp2_with fail
  refine (few_any A n c xs 9 w H.out (by omega)).mono ?_
  rintro e w1 ⟨v1, rfl, ⟨A1, c1, rfl, hrd1⟩, hb1⟩
  obtain ⟨rs, hrs⟩ : ∃ r, fewL xs 9 = r := ⟨_, rfl⟩
  rw [hrs] at hrd1 ⊢
  obtain ⟨m, hm⟩ : ∃ m, rs.length = m := ⟨_, rfl⟩
  rw [hm] at hrd1 ⊢
  have hm1 := hrd1.le
  have hc1 := hrd1.cap
  have HM := Lib.hid hm
  have HR1 := Lib.hid hrd1
  have HB1 := Lib.hid hb1
  clear hrs hm hrd1 hb1
  go_wp2_with fail
  refine (rleast_any A1 m c1 rs _ HR1.out).mono ?_
  rintro e w2 ⟨v2, rfl, h2, hb2⟩
  have HB2 := Lib.hid hb2
  clear hb2
  by_cases g : Vld rs
  rotate_left
  · have hv2 := h2.1 g
    subst hv2
    clear h2
    go_wp2_with fail
    obtain ⟨W3, hW3⟩ : ∃ W0, W0 = (w2.alloc (.cells #[.int .i64 0, .int .i64 0, .int .i64 0, .int .i64 0] TAL)).alloc (.cells #[.int .i64 0, .int .i64 0] TF) := ⟨_, rfl⟩
    have b4 : Blk W3 w2.heap.size TAL #[.int .i64 0, .int .i64 0, .int .i64 0, .int .i64 0] := by rw [hW3]; exact (Blk.new_ _ _ rfl).alloc _
    have b5 : Blk W3 (w2.heap.size + 1) TF #[.int .i64 0, .int .i64 0] := by rw [hW3]; exact Blk.new_ _ _ (by simp)
    have hb3 : Below w2.heap.size w2 W3 := by rw [hW3]; go_grown
    rw [← hW3]
    clear hW3
    refine (rwit_any A1 m c1 rs W3 (HR1.out.below (bt HB2.out hb3))).mono ?_
    rintro e w4 ⟨v4, rfl, h4, hb4⟩
    have hv4 := h4.1 g
    subst hv4
    go_wp2_with fail
    refine (zvld_any A1 m c1 rs w4 (HR1.out.below (bt HB2.out (bt hb3 hb4)))).mono ?_
    rintro e w5 ⟨v5, rfl, hv5, hb5⟩
    rw [vld_false g] at hv5
    subst hv5
    have k4 := zcells ((b4.below hb4).below hb5)
    have k5 := ((b5.below hb4).below hb5).cells
    simp only [cellsAre, Nat.zero_add, Nat.reduceAdd, and_true] at k5
    have HBE := Lib.hid (bt HB1.out (bt HB2.out (bt hb3 (bt hb4 hb5))))
    clear h4 b4 b5 hb3 hb4 hb5 g
    go_wp2_with fail
    refine (lives_any _).mono ?_
    rintro e w6 ⟨v6, rfl, hv6, hb6⟩
    subst hv6
    go_wp2
    go_returns
    exact ⟨_, rfl, rfl, bt HBE.out hb6⟩
  obtain ⟨s, k, E, p1, p2, p3, p4, pe, q1, q2, qe, l1, l2, l3, l4, e1, e2, er, hi, hp, hq, hv2, hcs⟩ := LeastV.three g h2
  subst hv2
  have HI := Lib.hid hi
  have HP := Lib.hid hp
  have HQ := Lib.hid hq
  have HC := Lib.hid hcs
  have HV := Lib.hid g
  clear h2 hi hp hq hcs g
  have hm64 : m ≤ 64 := by have := HV.out.2.1; have := HM.out; omega
  go_wp2_with fail
  obtain ⟨W3, hW3⟩ : ∃ W0, W0 = (w2.alloc (.cells #[.int .i64 l1, .int .i64 l2, .int .i64 l3, .int .i64 l4] TAL)).alloc (.cells #[.int .i64 e1, .int .i64 e2] TF) := ⟨_, rfl⟩
  have b4 : Blk W3 w2.heap.size TAL #[.int .i64 l1, .int .i64 l2, .int .i64 l3, .int .i64 l4] := by rw [hW3]; exact (Blk.new_ _ _ rfl).alloc _
  have b5 : Blk W3 (w2.heap.size + 1) TF #[.int .i64 e1, .int .i64 e2] := by rw [hW3]; exact Blk.new_ _ _ (by simp)
  have hb3 : Below w2.heap.size w2 W3 := by rw [hW3]; go_grown
  rw [← hW3]
  clear hW3
  refine (rwit_any A1 m c1 rs W3 (HR1.out.below (bt HB2.out hb3))).mono ?_
  rintro e w4 ⟨v4, rfl, h4, hb4⟩
  obtain ⟨A4, n4, c4, ws, rfl, hil, hws⟩ := h4.vld HV.out
  have HIL := Lib.hid hil
  have HWS := Lib.hid hws
  have B4 := Lib.hid (b4.below hb4)
  have B5 := Lib.hid (b5.below hb4)
  have HB4 := Lib.hid (bt HB2.out (bt hb3 hb4))
  clear h4 hil hws b4 b5 hb3 hb4
  go_wp2_with fail
  refine (zvld_any A1 m c1 rs w4 (HR1.out.below HB4.out)).mono ?_
  rintro e w5 ⟨v5, rfl, hv5, hb5⟩
  rw [vld_true HV.out] at hv5
  subst hv5
  have HB5 := Lib.hid hb5
  clear hb5
  go_wp2_with fail
  refine (zleast_any A1 m c1 rs w5 (HR1.out.below (bt HB4.out HB5.out)) HV.out).mono ?_
  rintro e w6 ⟨v6, rfl, ⟨x, y, E', l, q, hE, rfl, hzl, hzq⟩, hb6⟩
  obtain ⟨rfl, rfl, rfl⟩ := HI.out.uniq HV.out.tq_mono HV.out.1 hE
  obtain ⟨o0, O0, a0, i0, o1, O1, a1, i1, o2, O2, a2, i2, o3, O3, a3, i3, rfl, zl1, zl2⟩ := hzl
  have HZL : Hid (ZL w6 (.agg #[.bool o0, .slice O0 a0 i0, .bool o1, .slice O1 a1 i1, .bool o2, .slice O2 a2 i2, .bool o3, .slice O3 a3 i3]) s k 48) := ⟨_, _, _, _, _, _, _, _, _, _, _, _, _, _, _, _, rfl, zl1, zl2⟩
  obtain ⟨d, B, m', e, d', B', m'', e', rfl⟩ := hzq.form
  have HZQ := Lib.hid hzq
  have HB6 := Lib.hid (show Ext w4 w6 from bt HB5.out hb6)
  clear zl1 zl2 hzq hE hb6
  go_wp2_with fail
  obtain ⟨W7, hW7⟩ : ∃ W0, W0 = (w6.alloc (.cells #[.bool o0, .slice O0 a0 i0, .bool o1, .slice O1 a1 i1, .bool o2, .slice O2 a2 i2, .bool o3, .slice O3 a3 i3] TQL)).alloc (.cells #[.bool d, .slice B m' e, .bool d', .slice B' m'' e'] TQ) := ⟨_, rfl⟩
  have b10 : Blk W7 (w6.heap.size + 1) TQ #[.bool d, .slice B m' e, .bool d', .slice B' m'' e'] := by rw [hW7]; exact Blk.new_ _ _ (by simp)
  have hb7 : Below w6.heap.size w6 W7 := by rw [hW7]; go_grown
  rw [← hW7]
  clear hW7
  refine (zplain_any _ s k 48 W7 (HZL.out.below hb7) (by omega)).mono ?_
  rintro e w8 ⟨v8, rfl, h8, hb8⟩
  have hv8 := HP.out _ h8
  subst hv8
  have HZQ := Lib.hid ((HZQ.out.below hb7).below hb8)
  have HB8 := Lib.hid (show Ext w4 w8 from bt HB6.out (bt hb7 hb8))
  have B10 := Lib.hid (b10.below hb8)
  clear h8 b10 hb7 hb8
  go_upto_region 8 with fail
  refine wp_world (fun W => Blk W w8.heap.size TAL #[.int .i64 p1, .int .i64 p2, .int .i64 p3, .int .i64 p4] ∧ Below w8.heap.size w8 W) (by exact ⟨Blk.new_ _ _ rfl, by go_grown⟩) ?_
  rintro W9 ⟨b11, hb9⟩
  have k10 := zcells (B10.out.below hb9)
  go_wp2_with fail
  refine (xfrac_any (HZQ.out.below hb9) (by omega)).mono ?_
  rintro e w10 ⟨v10, rfl, h10, hb10⟩
  have hv10 := HQ.out _ h10
  subst hv10
  have B11 := Lib.hid (b11.below hb10)
  have HLT := Lib.hid (show w8.heap.size < w10.heap.size from B11.out.lt)
  have HB10 := Lib.hid (show Ext w4 w10 from bt HB8.out (bt hb9 hb10))
  clear h10 b11 hb9 hb10 k10 HZQ HZL B10
  go_upto_region 9 with fail
  refine wp_world (fun W => Blk W w10.heap.size TF #[.int .i64 q1, .int .i64 q2] ∧ Below w10.heap.size w10 W) (by exact ⟨Blk.new_ _ _ rfl, by go_grown⟩) ?_
  rintro W11 ⟨b13, hb11⟩
  have B13 := Lib.hid b13
  have B11 := Lib.hid (B11.out.below hb11)
  have HB11 := Lib.hid (show Ext w4 W11 from bt HB10.out hb11)
  have HR11 := Lib.hid (HR1.out.below (bt HB4.out HB11.out))
  have hlt : w4.heap.size ≤ w8.heap.size := HB8.out.size
  have hlt2 : w4.heap.size ≤ w10.heap.size := HB10.out.size
  have hlt3 := B4.out.lt
  have hlt4 := B5.out.lt
  have hlt5 := HLT.out
  have HBT := Lib.hid (bt HB1.out HB4.out)
  clear b13 hb11
  rcases HC.out with ⟨rfl, rfl, rfl, rfl, rfl, rfl, rfl, rfl, rfl⟩ | ⟨⟨rfl, rfl, rfl, rfl, rfl, rfl, rfl⟩, rfl | ⟨rfl, rfl⟩⟩
  · have k4 := zcells (B4.out.below HB11.out)
    have k5 := (B5.out.below HB11.out).cells
    have k11 := zcells B11.out
    have k13 := B13.out.cells
    simp only [cellsAre, Nat.zero_add, Nat.reduceAdd, and_true] at k5 k13
    go_wp2_with fail
    refine (zwitn_any A1 m c1 rs _ (HR1.out.below (bt HB4.out HB11.out)) HV.out).mono ?_
    rintro e w12 ⟨v12, rfl, ⟨x, y, E', A12, n12, c12, ws', hE, rfl, hil2, hfa⟩, hb12⟩
    have HSM := Lib.hid (sameB_t (HWS.out x y E' ws' hE hfa))
    have HI2 := Lib.hid hil2
    have HB12 := Lib.hid (show Ext w4 w12 from bt HB11.out hb12)
    clear hE hil2 hfa hb12
    go_wp2_with fail
    refine (same_any A4 A12 n4 c4 n12 c12 ws ws' w12 (HIL.out.below HB12.out) HI2.out).mono ?_
    rintro e w13 ⟨v13, rfl, hv13, hb13⟩
    rw [HSM.out] at hv13
    subst hv13
    have HB13 := Lib.hid (bt HBT.out (bt HB12.out hb13))
    clear hb13
    go_wp2_with fail
    refine (lives_any _).mono ?_
    rintro e w14 ⟨v14, rfl, hv14, hb14⟩
    subst hv14
    go_wp2
    go_returns
    exact ⟨_, rfl, rfl, bt HB13.out hb14⟩
  · have k11 := zcells B11.out
    have k13 := B13.out.cells
    have kf11 := B11.out.free
    have kf13 := B13.out.free
    simp only [cellsAre, Nat.zero_add, Nat.reduceAdd, and_true] at k13
    go_upto_region 11 with fail
    have hh1 := heldPut B11.out (.int .i64 0) (.int .i64 0) (.int .i64 0) (.int .i64 0)
    have G13 := B13.out.held hh1 (by omega)
    have hh2 := Held.set_ (Held.set_ G13.heldS 0 (.int .i64 0)) 1 (.int .i64 0)
    have P4 := ((B4.out.below HB11.out).held hh1 (by omega)).held hh2 (by omega)
    have P5 := ((B5.out.below HB11.out).held hh1 (by omega)).held hh2 (by omega)
    have P11 := (B11.out.put4 (.int .i64 0) (.int .i64 0) (.int .i64 0) (.int .i64 0)).held hh2 (by omega)
    have P13 := G13.put2 (.int .i64 0) (.int .i64 0)
    have PB := hh2.below (hh1.below HB11.out hlt) hlt2
    refine wp_world (fun W => Blk W w2.heap.size TAL #[.int .i64 0, .int .i64 0, .int .i64 0, .int .i64 0] ∧ Blk W (w2.heap.size + 1) TF #[.int .i64 0, .int .i64 0] ∧ Blk W w8.heap.size TAL #[.int .i64 0, .int .i64 0, .int .i64 0, .int .i64 0] ∧ Blk W w10.heap.size TF #[.int .i64 0, .int .i64 0] ∧ Ext w4 W) (by exact ⟨P4, P5, P11, P13, PB⟩) ?_
    rintro W15 ⟨b4, b5, b11, b13, hb15⟩
    clear k11 k13 kf11 kf13 hh1 G13 hh2 P4 P5 P11 P13 PB
    have HB15 := Lib.hid hb15
    have k4 := zcells b4
    have k5 := b5.cells
    have k11 := zcells b11
    have k13 := b13.cells
    simp only [cellsAre, Nat.zero_add, Nat.reduceAdd, and_true] at k5 k13
    clear b4 b5 b11 b13 hb15
    go_wp2_with fail
    refine (zwitn_any A1 m c1 rs _ (HR1.out.below (bt HB4.out HB15.out)) HV.out).mono ?_
    rintro e w12 ⟨v12, rfl, ⟨x, y, E', A12, n12, c12, ws', hE, rfl, hil2, hfa⟩, hb12⟩
    have HSM := Lib.hid (sameB_t (HWS.out x y E' ws' hE hfa))
    have HI2 := Lib.hid hil2
    have HB12 := Lib.hid (show Ext w4 w12 from bt HB15.out hb12)
    clear hE hil2 hfa hb12
    go_wp2_with fail
    refine (same_any A4 A12 n4 c4 n12 c12 ws ws' w12 (HIL.out.below HB12.out) HI2.out).mono ?_
    rintro e w13 ⟨v13, rfl, hv13, hb13⟩
    rw [HSM.out] at hv13
    subst hv13
    have HB13 := Lib.hid (bt HBT.out (bt HB12.out hb13))
    clear hb13
    go_wp2_with fail
    refine (lives_any _).mono ?_
    rintro e w14 ⟨v14, rfl, hv14, hb14⟩
    subst hv14
    go_wp2
    go_returns
    exact ⟨_, rfl, rfl, bt HB13.out hb14⟩
  · have k11 := zcells B11.out
    have k13 := B13.out.cells
    have kf11 := B11.out.free
    have kf13 := B13.out.free
    simp only [cellsAre, Nat.zero_add, Nat.reduceAdd, and_true] at k13
    go_upto_region 11 with fail
    have hh1 := heldPut B11.out (.int .i64 0) (.int .i64 0) (.int .i64 0) (.int .i64 0)
    have G13 := B13.out.held hh1 (by omega)
    have hh2 := Held.set_ (Held.set_ G13.heldS 0 (.int .i64 0)) 1 (.int .i64 0)
    have P4 := ((B4.out.below HB11.out).held hh1 (by omega)).held hh2 (by omega)
    have P5 := ((B5.out.below HB11.out).held hh1 (by omega)).held hh2 (by omega)
    have P11 := (B11.out.put4 (.int .i64 0) (.int .i64 0) (.int .i64 0) (.int .i64 0)).held hh2 (by omega)
    have P13 := G13.put2 (.int .i64 0) (.int .i64 0)
    have PB := hh2.below (hh1.below HB11.out hlt) hlt2
    refine wp_world (fun W => Blk W w2.heap.size TAL #[.int .i64 0, .int .i64 0, .int .i64 0, .int .i64 0] ∧ Blk W (w2.heap.size + 1) TF #[.int .i64 0, .int .i64 0] ∧ Blk W w8.heap.size TAL #[.int .i64 0, .int .i64 0, .int .i64 0, .int .i64 0] ∧ Blk W w10.heap.size TF #[.int .i64 0, .int .i64 0] ∧ Ext w4 W) (by exact ⟨P4, P5, P11, P13, PB⟩) ?_
    rintro W15 ⟨b4, b5, b11, b13, hb15⟩
    clear k11 k13 kf11 kf13 hh1 G13 hh2 P4 P5 P11 P13 PB
    have HB15 := Lib.hid hb15
    have k4 := zcells b4
    have k5 := b5.cells
    have k11 := zcells b11
    have k13 := b13.cells
    simp only [cellsAre, Nat.zero_add, Nat.reduceAdd, and_true] at k5 k13
    clear b4 b5 b11 b13 hb15
    go_wp2_with fail
    refine (zwitn_any A1 m c1 rs _ (HR1.out.below (bt HB4.out HB15.out)) HV.out).mono ?_
    rintro e w12 ⟨v12, rfl, ⟨x, y, E', A12, n12, c12, ws', hE, rfl, hil2, hfa⟩, hb12⟩
    have HSM := Lib.hid (sameB_t (HWS.out x y E' ws' hE hfa))
    have HI2 := Lib.hid hil2
    have HB12 := Lib.hid (show Ext w4 w12 from bt HB15.out hb12)
    clear hE hil2 hfa hb12
    go_wp2_with fail
    refine (same_any A4 A12 n4 c4 n12 c12 ws ws' w12 (HIL.out.below HB12.out) HI2.out).mono ?_
    rintro e w13 ⟨v13, rfl, hv13, hb13⟩
    rw [HSM.out] at hv13
    subst hv13
    have HB13 := Lib.hid (bt HBT.out (bt HB12.out hb13))
    clear hb13
    go_wp2_with fail
    refine (lives_any _).mono ?_
    rintro e w14 ⟨v14, rfl, hv14, hb14⟩
    subst hv14
    go_wp2
    go_returns
    exact ⟨_, rfl, rfl, bt HB13.out hb14⟩
end Go.Proofs.Tb
