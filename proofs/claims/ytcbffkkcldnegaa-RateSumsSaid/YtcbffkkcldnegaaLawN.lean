/- RateSums, the walk: the errors of Squares add up to 0, also weighted with the times; no other line has a lesser sum of squares. -/
import Derived.Test.YtcbffkkcldnegaaSums
import Derived.Test.YtcbffkkcldnegaaLawK
set_option linter.unusedVariables false
set_option linter.unusedSimpArgs false
namespace Go.Proofs.Tb
open Go.RowKit
attribute [local go_sem] cell_set_same

/-- Two fractions' variables are written. -/
structure Put2 (w W : World) (a b : Nat) (cs ds : Array Value) : Prop where
  fa : Blk W a TQ cs
  fb : Blk W b TQ ds
  far : ∀ g t c, g ≠ a → g ≠ b → Blk w g t c → Blk W g t c
  zx : ∀ v x s, ZX w v x s → ZX W v x s
  below : ∀ w0 : World, Below w0.heap.size w0 w → w0.heap.size ≤ a → w0.heap.size ≤ b → Below w0.heap.size w0 W
theorem put2 {w : World} {a b : Nat} {p0 p1 p2 p3 q0 q1 q2 q3 : Value} (h8 : Blk w a TQ #[p0, p1, p2, p3]) (h9 : Blk w b TQ #[q0, q1, q2, q3]) (hne : a ≠ b) (x0 x1 x2 x3 y0 y1 y2 y3 : Value) :
    Put2 w ((((((((w.setCell ⟨a, 0, none⟩ x0).setCell ⟨a, 1, none⟩ x1).setCell ⟨a, 2, none⟩ x2).setCell ⟨a, 3, none⟩ x3).setCell ⟨b, 0, none⟩ y0).setCell ⟨b, 1, none⟩ y1).setCell ⟨b, 2, none⟩ y2).setCell ⟨b, 3, none⟩ y3) a b #[x0, x1, x2, x3] #[y0, y1, y2, y3] := by
  have ha := heldPut h8 x0 x1 x2 x3
  have h9' := h9.held ha (Ne.symm hne)
  have hb := heldPut h9' y0 y1 y2 y3
  exact ⟨(h8.put4 x0 x1 x2 x3).held hb hne, h9'.put4 y0 y1 y2 y3, fun g t c g1 g2 hg => (hg.held ha g1).held hb g2, fun v x s hx => (hx.held ha (by decide)).held hb (by decide),
    fun w0 h0 ga gb => hb.below (ha.below h0 ga) gb⟩

set_option maxHeartbeats 3200000 in
set_option maxRecDepth 100000 in
theorem sums_any (A : Option Addr) (n c : Nat) (xs : List Rdg) (la lb lc ld : Int) (w : World) (h : Rd w A n c xs) (h1 : rngI la) (h2 : rngI lb) (h3 : rngI lc) (h4 : rngI ld) :
    Calls Try.prog 3 #[.slice A n c, .agg #[.int .i64 la, .int .i64 lb, .int .i64 lc, .int .i64 ld]] w (Ret (fun v _ => v = .bool true) w) := by
  have H1 := Lib.hid h1
  have H2 := Lib.hid h2
  have H3 := Lib.hid h3
  have H4 := Lib.hid h4
  have H := Lib.hid h
  clear h h1 h2 h3 h4
  go_enter Try.func3, Try.ntmps3
  go_wp2_with fail
  obtain ⟨W0, hW0⟩ : ∃ W0, W0 = w.alloc (.cells #[.int .i64 la, .int .i64 lb, .int .i64 lc, .int .i64 ld] TAL) := ⟨_, rfl⟩
  have e0 : Blk W0 w.heap.size TAL #[.int .i64 la, .int .i64 lb, .int .i64 lc, .int .i64 ld] := by rw [hW0]; exact Blk.new_ _ _ rfl
  have hbw : Below w.heap.size w W0 := by rw [hW0]; go_grown
  rw [← hW0]
  clear hW0
  refine (tame_any A n c xs 30 W0 (H.out.below hbw) (by omega)).mono ?_
  rintro e w1 ⟨v1, rfl, ⟨rs, htm, A1, c1, rfl, hrd⟩, hb1⟩
  have HV := Lib.hid (htm.vld (by omega))
  have HSM := Lib.hid (htm.small (by omega))
  obtain ⟨m, hm⟩ : ∃ m, rs.length = m := ⟨_, rfl⟩
  have hm30 : m ≤ 30 := by have := htm.2.1; omega
  have hc1 := hrd.cap
  have hm1 := hrd.le
  have HR1 := Lib.hid hrd
  rw [hm] at HR1 hm1 ⊢
  have HM := Lib.hid hm
  have E0 := Lib.hid (e0.below hb1)
  have HS0 := Lib.hid (show w.heap.size < w1.heap.size from E0.out.lt)
  have HB1 := Lib.hid (bt hbw hb1)
  clear htm hrd hb1 hm e0 hbw
  go_wp2_with fail
  refine (rsquares_any A1 m c1 rs _ HR1.out).mono ?_
  rintro e w2 ⟨v2, rfl, h2, hb2⟩
  obtain ⟨s, h, z1, z2, f1, f2, hv2⟩ := h2.ok HV.out HSM.out
  subst hv2
  have HLE := Lib.hid (fun x' y' => sq_least z1 z2 x' y')
  rw [HM.out] at z1 z2 HLE
  have HZ := Lib.hid (And.intro z1 z2)
  have HB2 := Lib.hid hb2
  have HVS := Lib.hid (vF_true (fit_vf f1))
  have HVH := Lib.hid (vF_true (fit_vf f2))
  have RS := Lib.hid (fit_rng f1)
  have RH := Lib.hid (fit_rng f2)
  have QS := Lib.hid (qv_self s)
  have QH := Lib.hid (qv_self h)
  obtain ⟨sn, hsn⟩ : ∃ x, s.num = x := ⟨_, rfl⟩
  obtain ⟨sd, hsd⟩ : ∃ x : Int, (s.den : Int) = x := ⟨_, rfl⟩
  obtain ⟨hn', hhn⟩ : ∃ x, h.num = x := ⟨_, rfl⟩
  obtain ⟨hd', hhd⟩ : ∃ x : Int, (h.den : Int) = x := ⟨_, rfl⟩
  rw [hsn, hsd, hhn, hhd]
  rw [hsn, hsd] at RS HVS QS
  rw [hhn, hhd] at RH HVH QH
  clear h2 hb2 hsn hsd hhn hhd f1 f2 z1 z2
  have HLO : Hid (∀ W, Calls Try.prog 21 #[.agg #[.int .i64 sn, .int .i64 sd, .int .i64 hn', .int .i64 hd']] W (Ret (fun v w' => ZL w' v s h 5) W)) := fun W => by
    have := zlof_any sn sd hn' hd' W RS.out.1 ⟨RS.out.2.1, RS.out.2.2.2⟩ RH.out.1 ⟨RH.out.2.1, RH.out.2.2.2⟩
    rw [QS.out, QH.out] at this
    exact this
  go_wp2_with fail
  obtain ⟨W3, hW3⟩ : ∃ W0, W0 = w2.alloc (.cells #[.int .i64 sn, .int .i64 sd, .int .i64 hn', .int .i64 hd'] TAL) := ⟨_, rfl⟩
  have b6 : Blk W3 w2.heap.size TAL #[.int .i64 sn, .int .i64 sd, .int .i64 hn', .int .i64 hd'] := by rw [hW3]; exact Blk.new_ _ _ rfl
  have hb3 : Below w2.heap.size w2 W3 := by rw [hW3]; go_grown
  rw [← hW3]
  clear hW3
  refine (zvalid_any sn sd _ RS.out.1.1 RS.out.1.2 RS.out.2.2.1 RS.out.2.2.2).mono ?_
  rintro e w4 ⟨v4, rfl, hv4, hb4⟩
  rw [HVS.out] at hv4
  subst hv4
  have k6 := zcells (b6.below hb4)
  go_wp2_with fail
  refine (zvalid_any hn' hd' _ RH.out.1.1 RH.out.1.2 RH.out.2.2.1 RH.out.2.2.2).mono ?_
  rintro e w5 ⟨v5, rfl, hv5, hb5⟩
  rw [HVH.out] at hv5
  subst hv5
  clear k6
  go_wp2_with fail
  refine (lives_any _).mono ?_
  rintro e w6 ⟨v6, rfl, hv6, hb6⟩
  subst hv6
  go_wp2_with fail
  refine (xwhole_any 0 _ (by omega) (by omega)).mono ?_
  rintro e w7 ⟨v7, rfl, hx7, hb7⟩
  obtain ⟨d8, A8, n8, c8, d8', A8', n8', c8', rfl⟩ := hx7.form
  go_wp2_with fail
  refine (xwhole_any 0 _ (by omega) (by omega)).mono ?_
  rintro e w8 ⟨v8, rfl, hx8, hb8⟩
  obtain ⟨d9, A9, n9, c9, d9', A9', n9', c9', rfl⟩ := hx8.form
  have E6 := Lib.hid ((((((b6.below hb4).below hb5).below hb6).below hb7).below hb8))
  have HB8 := Lib.hid (bt HB2.out (bt hb3 (bt hb4 (bt hb5 (bt hb6 (bt hb7 hb8))))))
  have E0 := Lib.hid (E0.out.below HB8.out)
  have X8 := Lib.hid ((hx7.below hb8).eq (show ((0 : Int) : Rat) = esT rs s h 0 from rfl))
  have X9 := Lib.hid (hx8.eq (show ((0 : Int) : Rat) = ewT rs s h 0 from rfl))
  have HS := Lib.hid (show w.heap.size < w2.heap.size ∧ w2.heap.size < w8.heap.size ∧ w1.heap.size ≤ w8.heap.size by
    have q1 := E0.out.lt
    have q2 := E6.out.lt
    have q3 := HB1.out.size
    have q4 := HB2.out.size
    have q5 := HB8.out.size
    have q6 := HS0.out
    omega)
  clear b6 hb3 hb4 hb5 hb6 hb7 hb8 hx7 hx8
  go_upto_region 6 with fail
  refine wp_world (fun W => Blk W w8.heap.size TQ #[.bool d8, .slice A8 n8 c8, .bool d8', .slice A8' n8' c8'] ∧ Blk W (w8.heap.size + 1) TQ #[.bool d9, .slice A9 n9 c9, .bool d9', .slice A9' n9' c9'] ∧ Below w8.heap.size w8 W) (by exact ⟨(Blk.new_ _ _ rfl).alloc _, Blk.new_ _ _ (by simp), by go_grown⟩) ?_
  rintro W9 ⟨b8, b9, hb9⟩
  have B8 := Lib.hid b8
  have B9 := Lib.hid b9
  have HB9 := Lib.hid hb9
  clear b8 b9 hb9
  go_wp2
  go_loopw [10] (fun i wr => ∃ (k : Nat) (d : Bool) (B : Option Addr) (m1 e : Nat) (d' : Bool) (B' : Option Addr) (m' e' : Nat) (f : Bool) (C : Option Addr) (p1 g : Nat) (f' : Bool) (C' : Option Addr) (p' g' : Nat), k ≤ m ∧ i = .int .i64 k ∧
      Blk wr w.heap.size TAL #[.int .i64 la, .int .i64 lb, .int .i64 lc, .int .i64 ld] ∧ Blk wr w2.heap.size TAL #[.int .i64 sn, .int .i64 sd, .int .i64 hn', .int .i64 hd'] ∧
      Blk wr w8.heap.size TQ #[.bool d, .slice B m1 e, .bool d', .slice B' m' e'] ∧ Blk wr (w8.heap.size + 1) TQ #[.bool f, .slice C p1 g, .bool f', .slice C' p' g'] ∧
      ZX wr (.agg #[.bool d, .slice B m1 e, .bool d', .slice B' m' e']) (esT rs s h k) (5 + k * 28) ∧ ZX wr (.agg #[.bool f, .slice C p1 g, .bool f', .slice C' p' g']) (ewT rs s h k) (5 + k * 28) ∧ Below w1.heap.size w1 wr) (fun i _ => m - (intOf i).toNat)
  case atStart => exact ⟨0, _, _, _, _, _, _, _, _, _, _, _, _, _, _, _, _, Nat.zero_le _, rfl, E0.out.below HB9.out, E6.out.below HB9.out, B8.out, B9.out, (X8.out.below HB9.out).le (by omega), (X9.out.below HB9.out).le (by omega), bt HB8.out HB9.out⟩
  case round =>
    clear E0 E6 B8 B9 X8 X9
    obtain ⟨k, d, B, m1, e, d', B', m', e', f, C, p1, g, f', C', p', g', hk, rfl, f0, f6, f8, f9, x8, x9, hbw⟩ := hrel
    have F0 := Lib.hid f0
    have F6 := Lib.hid f6
    have F8 := Lib.hid f8
    have F9 := Lib.hid f9
    have X8 := Lib.hid x8
    have X9 := Lib.hid x9
    have HBW := Lib.hid hbw
    clear f0 f6 f8 f9 x8 x9 hbw
    by_cases hkm : k < m
    · have g1 : decide ((k : Int) < (m : Int)) = true := by simp; omega
      have p0 : (k : Int) < (m : Int) := by omega
      obtain ⟨bb, o, rfl, hcell⟩ := (HR1.out.below HBW.out).at_ (by omega)
      obtain ⟨hct, hcy⟩ := hcell k hkm
      have RNG0 := HR1.out.getD_rng k
      obtain ⟨t, ht⟩ : ∃ t, (rs.getD k (0, 0)).1 = t := ⟨_, rfl⟩
      obtain ⟨q, hq⟩ : ∃ t, (rs.getD k (0, 0)).2 = t := ⟨_, rfl⟩
      rw [ht] at hct RNG0
      rw [hq] at hcy RNG0
      have RNG : Hid (rngI t ∧ rngI q) := ⟨⟨RNG0.1, RNG0.2.1⟩, RNG0.2.2⟩
      have HES : Hid (esT rs s h k + erQ s h t q = esT rs s h (k + 1)) := by rw [← ht, ← hq]; exact rfl
      have HEW : Hid (ewT rs s h k + erQ s h t q * (t : Rat) = ewT rs s h (k + 1)) := by rw [← ht, ← hq]; exact rfl
      have KT := Lib.hid (fun w' (hh : Ext wr w') => hh.cell hct)
      have KY := Lib.hid (fun w' (hh : Ext wr w') => hh.cell hcy)
      clear ht hq hcell RNG0 hct hcy
      have k6 := cells4 F6.out
      have k1 := KT.out
      have k2 := KY.out
      have hst : Ext wr wr.drew := Ext.drew _
      go_upto_region 9 with fail
      refine wp_region_adv 8 [⟨7, 11, TQ, #[.bool false, .slice none 0 0, .bool false, .slice none 0 0]⟩] [(0, true), (2, true), (3, true), (4, true), (5, true), (1, false), (6, false)] (by kernel_rfl) (by kernel_rfl) (by kernel_rfl) (by intro it hit; (repeat (rcases List.mem_cons.1 hit with rfl | hit; (focus (intro o ho ev w; injection ho with ho; subst ho; kernel_rfl)))); cases hit) (fun _ _ _ _ _ => ⟨fun h => h, fun h => h⟩) hst ?_
      repeat (first | (refine wpSeq_pure (v := ?_) rfl (by rfl) ?_ ?_; rotate_left 1; (focus (intro wq_ hSq_; (try dsimp only at hSq_); go_simp; (try with_reducible rfl); done)); (try simp only [Act.put, List.setIfInBounds_toArray, List.set_cons_zero, List.set_cons_succ])) | (refine wpSeq_off rfl (by rfl) ?_; (try simp only [Act.put, List.setIfInBounds_toArray, List.set_cons_zero, List.set_cons_succ])))
      refine wpSeq_step rfl (fun u1 g1' s1 K hK => ?_)
      go_simp
      refine (HLO.out u1).mono ?_
      rintro e y1 ⟨z1, rfl, x1, b1'⟩
      obtain ⟨o0, O0, a0, i0, o1, O1, a1, i1, o2, O2, a2, i2, o3, O3, a3, i3, rfl, zl1, zl2⟩ := x1
      have x1 : ZL y1 (.agg #[.bool o0, .slice O0 a0 i0, .bool o1, .slice O1 a1 i1, .bool o2, .slice O2 a2 i2, .bool o3, .slice O3 a3 i3]) s h 5 := ⟨_, _, _, _, _, _, _, _, _, _, _, _, _, _, _, _, rfl, zl1, zl2⟩
      clear zl1 zl2
      (try go_wp2_with fail)
      refine hK.out _ _ b1' ?_
      clear hK K
      (try simp only [Act.put, List.setIfInBounds_toArray, List.set_cons_zero, List.set_cons_succ])
      repeat (first | (refine wpSeq_pure (v := ?_) rfl (by rfl) ?_ ?_; rotate_left 1; (focus (intro wq_ hSq_; (try dsimp only at hSq_); go_simp; (try with_reducible rfl); done)); (try simp only [Act.put, List.setIfInBounds_toArray, List.set_cons_zero, List.set_cons_succ])) | (refine wpSeq_off rfl (by rfl) ?_; (try simp only [Act.put, List.setIfInBounds_toArray, List.set_cons_zero, List.set_cons_succ])))
      refine wpSeq_step rfl (fun u2 g2' s2 K hK => ?_)
      go_simp
      refine (zerror_any _ s h 5 t q u2 (x1.below g2') (by omega) RNG.out.1 RNG.out.2).mono ?_
      rintro e y2 ⟨z2, rfl, hz2, b2'⟩
      have x2 := hz2.zx
      obtain ⟨d2, A6, n6, c6, d2', A6', n6', c6', rfl⟩ := x2.form
      (try go_wp2_with fail)
      refine hK.out _ _ b2' ?_
      clear hK K
      (try simp only [Act.put, List.setIfInBounds_toArray, List.set_cons_zero, List.set_cons_succ])
      repeat (first | (refine wpSeq_pure (v := ?_) rfl (by rfl) ?_ ?_; rotate_left 1; (focus (intro wq_ hSq_; (try dsimp only at hSq_); go_simp; (try with_reducible rfl); done)); (try simp only [Act.put, List.setIfInBounds_toArray, List.set_cons_zero, List.set_cons_succ])) | (refine wpSeq_off rfl (by rfl) ?_; (try simp only [Act.put, List.setIfInBounds_toArray, List.set_cons_zero, List.set_cons_succ])))
      intro wz gz sz_
      (try simp only [endJ, List.drop_succ_cons, List.drop_zero])
      intro R1 hr1 hu_ hB1
      (try simp only [endJ, Act.put, ptr, List.setIfInBounds_toArray, List.set_cons_zero, List.set_cons_succ])
      clear hu_
      have kR := zcells hB1
      have kf := hB1.free
      have X2 := Lib.hid (x2.below gz)
      have SZ := Lib.hid sz_
      have HBB := Lib.hid hB1
      clear x1 x2 hz2 b1' b2' g1' g2' s1 s2 k6 k1 k2 hst hB1 gz sz_
      go_upto_region 10 with fail
      refine wp_world (fun W => Blk W R1 TQ #[.bool d2, .slice A6 n6 c6, .bool d2', .slice A6' n6' c6'] ∧ Held R1 4 TQ wz W) (by exact ⟨HBB.out.put4 _ _ _ _, heldPut HBB.out _ _ _ _⟩) ?_
      rintro W3 ⟨e3, hh3⟩
      clear kR kf
      have hr1' : wr.heap.size ≤ R1 := hr1
      have F0 := Lib.hid ((F0.out.below SZ.out).held hh3 (by have := F0.out.lt; omega))
      have F6 := Lib.hid ((F6.out.below SZ.out).held hh3 (by have := F6.out.lt; omega))
      have F8 := Lib.hid ((F8.out.below SZ.out).held hh3 (by have := F8.out.lt; omega))
      have F9 := Lib.hid ((F9.out.below SZ.out).held hh3 (by have := F9.out.lt; omega))
      have XE := Lib.hid (X2.out.held hh3 (by decide))
      have hb3 : Below wr.heap.size wr W3 := hh3.below SZ.out hr1'
      have X8 := Lib.hid (X8.out.below hb3)
      have X9 := Lib.hid (X9.out.below hb3)
      have HB3 := Lib.hid (bt HBW.out hb3)
      have k1 := fun w' (hh : Ext W3 w') => KT.out w' (bt hb3 hh)
      have k7 := cells4 e3
      have k8 := cells4 F8.out
      have k9 := cells4 F9.out
      have hst : Ext W3 W3.drew := Ext.drew _
      clear hh3 hb3 SZ HBB X2 hr1 hr1' e3
      refine wp_region_adv 12 [] [(0, true), (1, true), (3, true), (4, true), (5, true), (6, true), (7, true), (8, true), (9, true), (2, false), (10, false), (11, false)] (by kernel_rfl) (by kernel_rfl) (by kernel_rfl) (by intro it hit; (repeat (rcases List.mem_cons.1 hit with rfl | hit; (focus (intro o ho ev w; injection ho with ho; subst ho; kernel_rfl)))); cases hit) (fun _ _ _ _ _ => ⟨fun h => h, fun h => h⟩) hst ?_
      repeat (first | (refine wpSeq_pure (v := ?_) rfl (by rfl) ?_ ?_; rotate_left 1; (focus (intro wq_ hSq_; (try dsimp only at hSq_); go_simp; (try with_reducible rfl); done)); (try simp only [Act.put, List.setIfInBounds_toArray, List.set_cons_zero, List.set_cons_succ])) | (refine wpSeq_off rfl (by rfl) ?_; (try simp only [Act.put, List.setIfInBounds_toArray, List.set_cons_zero, List.set_cons_succ])))
      refine wpSeq_step rfl (fun u1 g1' s1 K hK => ?_)
      go_simp
      refine (xadd_any (X8.out.below s1) (XE.out.below s1) (by omega)).mono ?_
      rintro e y1 ⟨z1, rfl, x1, b1'⟩
      obtain ⟨d3, A3, n3, c3, d3', A3', n3', c3', rfl⟩ := x1.form
      (try go_wp2_with fail)
      refine hK.out _ _ b1' ?_
      clear hK K
      (try simp only [Act.put, List.setIfInBounds_toArray, List.set_cons_zero, List.set_cons_succ])
      repeat (first | (refine wpSeq_pure (v := ?_) rfl (by rfl) ?_ ?_; rotate_left 1; (focus (intro wq_ hSq_; (try dsimp only at hSq_); go_simp; (try with_reducible rfl); done)); (try simp only [Act.put, List.setIfInBounds_toArray, List.set_cons_zero, List.set_cons_succ])) | (refine wpSeq_off rfl (by rfl) ?_; (try simp only [Act.put, List.setIfInBounds_toArray, List.set_cons_zero, List.set_cons_succ])))
      refine wpSeq_step rfl (fun u2 g2' s2 K hK => ?_)
      go_simp
      refine (xwhole_any t u2 RNG.out.1.1 RNG.out.1.2).mono ?_
      rintro e y2 ⟨z2, rfl, x2, b2'⟩
      obtain ⟨d4, A4, n4, c4, d4', A4', n4', c4', rfl⟩ := x2.form
      (try go_wp2_with fail)
      refine hK.out _ _ b2' ?_
      clear hK K
      (try simp only [Act.put, List.setIfInBounds_toArray, List.set_cons_zero, List.set_cons_succ])
      repeat (first | (refine wpSeq_pure (v := ?_) rfl (by rfl) ?_ ?_; rotate_left 1; (focus (intro wq_ hSq_; (try dsimp only at hSq_); go_simp; (try with_reducible rfl); done)); (try simp only [Act.put, List.setIfInBounds_toArray, List.set_cons_zero, List.set_cons_succ])) | (refine wpSeq_off rfl (by rfl) ?_; (try simp only [Act.put, List.setIfInBounds_toArray, List.set_cons_zero, List.set_cons_succ])))
      refine wpSeq_step rfl (fun u3 g3' s3 K hK => ?_)
      go_simp
      refine (xmul_any (XE.out.below s3) (x2.below g3') (by omega)).mono ?_
      rintro e y3 ⟨z3, rfl, x3, b3'⟩
      obtain ⟨d5, A5, n5, c5, d5', A5', n5', c5', rfl⟩ := x3.form
      (try go_wp2_with fail)
      refine hK.out _ _ b3' ?_
      clear hK K
      (try simp only [Act.put, List.setIfInBounds_toArray, List.set_cons_zero, List.set_cons_succ])
      repeat (first | (refine wpSeq_pure (v := ?_) rfl (by rfl) ?_ ?_; rotate_left 1; (focus (intro wq_ hSq_; (try dsimp only at hSq_); go_simp; (try with_reducible rfl); done)); (try simp only [Act.put, List.setIfInBounds_toArray, List.set_cons_zero, List.set_cons_succ])) | (refine wpSeq_off rfl (by rfl) ?_; (try simp only [Act.put, List.setIfInBounds_toArray, List.set_cons_zero, List.set_cons_succ])))
      intro wz gz sz_
      (try simp only [endJ, List.drop_succ_cons, List.drop_zero])
      have X3 := x3.below gz
      have X1 := Lib.hid (((((x1.below g2').below b2').below g3').below b3').below gz)
      have SZ := Lib.hid sz_
      clear x1 x2 x3 b1' b2' b3' g1' g2' g3' s1 s2 s3 hst gz sz_ k1 k7 k8 k9
      go_wp2_with fail
      refine (xadd_any (X9.out.below SZ.out) X3 (by omega)).mono ?_
      rintro e y4 ⟨z4, rfl, x4, b4'⟩
      obtain ⟨d7, A7, n7, c7, d7', A7', n7', c7', rfl⟩ := x4.form
      have X1 := Lib.hid (X1.out.below b4')
      have X4 := Lib.hid x4
      have HD := Lib.hid (show Ext W3 y4 from bt SZ.out b4')
      have G8 := Lib.hid (F8.out.below HD.out)
      have G9 := Lib.hid (F9.out.below HD.out)
      have kc8 := zcells G8.out
      have kf8 := G8.out.free
      have kc9 := zcells G9.out
      have kf9 := G9.out.free
      clear x4 X3 b4' SZ
      go_upto_region 11 with fail
      have P := put2 G8.out G9.out (by omega) (.bool d3) (.slice A3 n3 c3) (.bool d3') (.slice A3' n3' c3') (.bool d7) (.slice A7 n7 c7) (.bool d7') (.slice A7' n7' c7')
      refine wp_world (fun W => Put2 y4 W w8.heap.size (w8.heap.size + 1) #[.bool d3, .slice A3 n3 c3, .bool d3', .slice A3' n3' c3'] #[.bool d7, .slice A7 n7 c7, .bool d7', .slice A7' n7' c7']) (by exact P) ?_
      rintro W4 P4
      have F0 := Lib.hid (P4.far _ _ _ (by have := HS.out; omega) (by have := HS.out; omega) (F0.out.below HD.out))
      have F6 := Lib.hid (P4.far _ _ _ (by have := HS.out; omega) (by have := HS.out; omega) (F6.out.below HD.out))
      have F8 := Lib.hid P4.fa
      have F9 := Lib.hid P4.fb
      have X1 := Lib.hid (P4.zx _ _ _ X1.out)
      have X4 := Lib.hid (P4.zx _ _ _ X4.out)
      have HB4 := Lib.hid (P4.below w1 (bt HB3.out HD.out) HS.out.2.2 (by have := HS.out.2.2; omega))
      clear P P4 kc8 kf8 kc9 kf9 HD G8 G9
      have k8 := cells4 F8.out
      have k9 := cells4 F9.out
      have hst : Ext W4 W4.drew := Ext.drew _
      refine wp_region_adv 3 [] [(0, true), (2, true), (1, false)] (by kernel_rfl) (by kernel_rfl) (by kernel_rfl) (by intro it hit; (repeat (rcases List.mem_cons.1 hit with rfl | hit; (focus (intro o ho ev w; injection ho with ho; subst ho; kernel_rfl)))); cases hit) (fun _ _ _ _ _ => ⟨fun h => h, fun h => h⟩) hst ?_
      repeat (first | (refine wpSeq_pure (v := ?_) rfl (by rfl) ?_ ?_; rotate_left 1; (focus (intro wq_ hSq_; (try dsimp only at hSq_); go_simp; (try with_reducible rfl); done)); (try simp only [Act.put, List.setIfInBounds_toArray, List.set_cons_zero, List.set_cons_succ])) | (refine wpSeq_off rfl (by rfl) ?_; (try simp only [Act.put, List.setIfInBounds_toArray, List.set_cons_zero, List.set_cons_succ])))
      refine wpSeq_step rfl (fun u1 g1' s1 K hK => ?_)
      go_simp
      refine (xlowest_any (X1.out.below s1) (by omega)).mono ?_
      rintro e y1 ⟨z1, rfl, hz1, b1'⟩
      have x1 := hz1.zx
      obtain ⟨d3, A3, n3, c3, d3', A3', n3', c3', rfl⟩ := x1.form
      (try go_wp2_with fail)
      refine hK.out _ _ b1' ?_
      clear hK K
      (try simp only [Act.put, List.setIfInBounds_toArray, List.set_cons_zero, List.set_cons_succ])
      repeat (first | (refine wpSeq_pure (v := ?_) rfl (by rfl) ?_ ?_; rotate_left 1; (focus (intro wq_ hSq_; (try dsimp only at hSq_); go_simp; (try with_reducible rfl); done)); (try simp only [Act.put, List.setIfInBounds_toArray, List.set_cons_zero, List.set_cons_succ])) | (refine wpSeq_off rfl (by rfl) ?_; (try simp only [Act.put, List.setIfInBounds_toArray, List.set_cons_zero, List.set_cons_succ])))
      intro wz gz sz_
      (try simp only [endJ, List.drop_succ_cons, List.drop_zero])
      have X1 := x1.below gz
      have SZ := Lib.hid sz_
      clear x1 hz1 b1' g1' s1 hst gz sz_ k8 k9
      go_wp2_with fail
      refine (xlowest_any (X4.out.below SZ.out) (by omega)).mono ?_
      rintro e y4 ⟨z4, rfl, hz4, b4'⟩
      have x4 := hz4.zx
      obtain ⟨d7, A7, n7, c7, d7', A7', n7', c7', rfl⟩ := x4.form
      have X1 := Lib.hid (X1.below b4')
      have X4 := Lib.hid x4
      have HD := Lib.hid (show Ext W4 y4 from bt SZ.out b4')
      have G8 := Lib.hid (F8.out.below HD.out)
      have G9 := Lib.hid (F9.out.below HD.out)
      have kc8 := zcells G8.out
      have kf8 := G8.out.free
      have kc9 := zcells G9.out
      have kf9 := G9.out.free
      clear x4 hz4 b4' SZ
      go_wp2
      have P4 := put2 G8.out G9.out (by omega) (.bool d3) (.slice A3 n3 c3) (.bool d3') (.slice A3' n3' c3') (.bool d7) (.slice A7 n7 c7) (.bool d7') (.slice A7' n7' c7')
      go_roundw
      case rel => exact ⟨k + 1, d3, A3, n3, c3, d3', A3', n3', c3', d7, A7, n7, c7, d7', A7', n7', c7', by omega, by go_num, P4.far _ _ _ (by have := HS.out; omega) (by have := HS.out; omega) (F0.out.below HD.out), P4.far _ _ _ (by have := HS.out; omega) (by have := HS.out; omega) (F6.out.below HD.out), P4.fa, P4.fb, P4.zx _ _ _ ((X1.out.eq HES.out).le (by omega)), P4.zx _ _ _ ((X4.out.eq HEW.out).le (by omega)), P4.below w1 (bt HB4.out HD.out) HS.out.2.2 (by have := HS.out.2.2; omega)⟩
      case measure => simp [intOf]; omega
    · have g1 : decide ((k : Int) < (m : Int)) = false := by simp; omega
      have : k = m := by omega
      subst this
      have X8 := Lib.hid (X8.out.eq HZ.out.1)
      have X9 := Lib.hid (X9.out.eq HZ.out.2)
      have k8 := cells4 F8.out
      have k9 := cells4 F9.out
      have hst : Ext wr wr.drew := Ext.drew _
      have HC0 : Hid (cmpR 0 ((0 : Int) : Rat) = 0) := by show _ = _; exact cmpR_eq.2 rfl
      go_upto_region 12 with fail
      refine wp_region_adv 7 [] [(0, true), (1, false), (2, false), (3, true), (4, true), (5, true), (6, false)] (by kernel_rfl) (by kernel_rfl) (by kernel_rfl) (by intro it hit; (repeat (rcases List.mem_cons.1 hit with rfl | hit; (focus (intro o ho ev w; injection ho with ho; subst ho; kernel_rfl)))); cases hit) (fun _ _ _ _ _ => ⟨fun h => h, fun h => h⟩) hst ?_
      repeat (first | (refine wpSeq_pure (v := ?_) rfl (by rfl) ?_ ?_; rotate_left 1; (focus (intro wq_ hSq_; (try dsimp only at hSq_); go_simp; (try with_reducible rfl); done)); (try simp only [Act.put, List.setIfInBounds_toArray, List.set_cons_zero, List.set_cons_succ])) | (refine wpSeq_off rfl (by rfl) ?_; (try simp only [Act.put, List.setIfInBounds_toArray, List.set_cons_zero, List.set_cons_succ])))
      refine wpSeq_step rfl (fun u1 g1' s1 K hK => ?_)
      go_simp
      refine (xwhole_any 0 u1 (by omega) (by omega)).mono ?_
      rintro e y1 ⟨z1, rfl, x1, b1'⟩
      obtain ⟨d3, A3, n3, c3, d3', A3', n3', c3', rfl⟩ := x1.form
      (try go_wp2_with fail)
      refine hK.out _ _ b1' ?_
      clear hK K
      (try simp only [Act.put, List.setIfInBounds_toArray, List.set_cons_zero, List.set_cons_succ])
      repeat (first | (refine wpSeq_pure (v := ?_) rfl (by rfl) ?_ ?_; rotate_left 1; (focus (intro wq_ hSq_; (try dsimp only at hSq_); go_simp; (try with_reducible rfl); done)); (try simp only [Act.put, List.setIfInBounds_toArray, List.set_cons_zero, List.set_cons_succ])) | (refine wpSeq_off rfl (by rfl) ?_; (try simp only [Act.put, List.setIfInBounds_toArray, List.set_cons_zero, List.set_cons_succ])))
      refine wpSeq_step rfl (fun u2 g2' s2 K hK => ?_)
      go_simp
      refine (xcmp_any (X8.out.below s2) (x1.below g2') (by omega)).mono ?_
      rintro e y2 ⟨z2, rfl, hz2, b2'⟩
      rw [HC0.out] at hz2
      subst hz2
      (try go_wp2_with fail)
      refine hK.out _ _ b2' ?_
      clear hK K
      (try simp only [Act.put, List.setIfInBounds_toArray, List.set_cons_zero, List.set_cons_succ])
      repeat (first | (refine wpSeq_pure (v := ?_) rfl (by rfl) ?_ ?_; rotate_left 1; (focus (intro wq_ hSq_; (try dsimp only at hSq_); go_simp; (try with_reducible rfl); done)); (try simp only [Act.put, List.setIfInBounds_toArray, List.set_cons_zero, List.set_cons_succ])) | (refine wpSeq_off rfl (by rfl) ?_; (try simp only [Act.put, List.setIfInBounds_toArray, List.set_cons_zero, List.set_cons_succ])))
      refine wpSeq_step rfl (fun u3 g3' s3 K hK => ?_)
      go_simp
      refine (xwhole_any 0 u3 (by omega) (by omega)).mono ?_
      rintro e y3 ⟨z3, rfl, x3, b3'⟩
      obtain ⟨d4, A4, n4, c4, d4', A4', n4', c4', rfl⟩ := x3.form
      (try go_wp2_with fail)
      refine hK.out _ _ b3' ?_
      clear hK K
      (try simp only [Act.put, List.setIfInBounds_toArray, List.set_cons_zero, List.set_cons_succ])
      repeat (first | (refine wpSeq_pure (v := ?_) rfl (by rfl) ?_ ?_; rotate_left 1; (focus (intro wq_ hSq_; (try dsimp only at hSq_); go_simp; (try with_reducible rfl); done)); (try simp only [Act.put, List.setIfInBounds_toArray, List.set_cons_zero, List.set_cons_succ])) | (refine wpSeq_off rfl (by rfl) ?_; (try simp only [Act.put, List.setIfInBounds_toArray, List.set_cons_zero, List.set_cons_succ])))
      intro wz gz sz_
      (try simp only [endJ, List.drop_succ_cons, List.drop_zero])
      have X3 := x3.below gz
      have SZ := Lib.hid sz_
      clear x1 x3 b1' b2' b3' g1' g2' g3' s1 s2 s3 hst gz sz_ k8 k9
      go_wp2_with fail
      refine (xcmp_any (X9.out.below SZ.out) X3 (by omega)).mono ?_
      rintro e y4 ⟨z4, rfl, hz4, b4'⟩
      rw [HC0.out] at hz4
      subst hz4
      have HD := Lib.hid (show Ext wr y4 from bt SZ.out b4')
      have k0 := zcells (F0.out.below HD.out)
      clear X3 b4' SZ
      have HB4 := Lib.hid (bt HBW.out HD.out)
      have HB14 := Lib.hid (bt HB1.out HB4.out)
      go_wp2_with fail
      refine (zvalid_any la lb _ H1.out.1 H1.out.2 H2.out.1 H2.out.2).mono ?_
      rintro e y5 ⟨v5, rfl, hv5, hb5⟩
      have k0 := zcells ((F0.out.below HD.out).below hb5)
      by_cases g2 : VF la lb
      rotate_left
      · rw [vF_false g2] at hv5
        subst hv5
        go_wp2
        go_returns
        exact ⟨_, rfl, rfl, bt HB14.out hb5⟩
      rw [vF_true g2] at hv5
      subst hv5
      have HB5 := Lib.hid hb5
      clear hb5
      go_wp2_with fail
      refine (zvalid_any lc ld _ H3.out.1 H3.out.2 H4.out.1 H4.out.2).mono ?_
      rintro e y6 ⟨v6, rfl, hv6, hb6⟩
      by_cases g3 : VF lc ld
      rotate_left
      · rw [vF_false g3] at hv6
        subst hv6
        go_wp2
        go_returns
        exact ⟨_, rfl, rfl, bt HB14.out (bt HB5.out hb6)⟩
      rw [vF_true g3] at hv6
      subst hv6
      have G2 := Lib.hid g2
      have G3 := Lib.hid g3
      have hx6 : Below wr.heap.size wr y6 := bt HD.out (bt HB5.out hb6)
      have HX6 := Lib.hid hx6
      have F0 := Lib.hid (F0.out.below hx6)
      have F6 := Lib.hid (F6.out.below hx6)
      have HB6 := Lib.hid (bt HBW.out hx6)
      have HCM := Lib.hid (cmpR_le (HLE.out (qv la lb) (qv lc ld)))
      obtain ⟨cv, hcv⟩ : ∃ x, cmpR (sqT rs s h k) (sqT rs (qv la lb) (qv lc ld) k) = x := ⟨_, rfl⟩
      rw [hcv] at HCM
      have HCV := Lib.hid hcv
      have g4 : decide (cv ≤ 0) = true := by simpa using HCM.out
      clear k0 hb6 g2 g3 hx6 HD HB4 HB5 X8 X9 F8 F9 hcv
      have k6 := cells4 F6.out
      have k0 := cells4 F0.out
      have hst : Ext y6 y6.drew := Ext.drew _
      go_upto_region 16 with fail
      refine wp_region_adv 7 [] [(0, true), (1, true), (4, true), (5, true), (2, false), (3, false), (6, false)] (by kernel_rfl) (by kernel_rfl) (by kernel_rfl) (by intro it hit; (repeat (rcases List.mem_cons.1 hit with rfl | hit; (focus (intro o ho ev w; injection ho with ho; subst ho; kernel_rfl)))); cases hit) (fun _ _ _ _ _ => ⟨fun h => h, fun h => h⟩) hst ?_
      repeat (first | (refine wpSeq_pure (v := ?_) rfl (by rfl) ?_ ?_; rotate_left 1; (focus (intro wq_ hSq_; (try dsimp only at hSq_); go_simp; (try with_reducible rfl); done)); (try simp only [Act.put, List.setIfInBounds_toArray, List.set_cons_zero, List.set_cons_succ])) | (refine wpSeq_off rfl (by rfl) ?_; (try simp only [Act.put, List.setIfInBounds_toArray, List.set_cons_zero, List.set_cons_succ])))
      refine wpSeq_step rfl (fun u1 g1' s1 K hK => ?_)
      go_simp
      refine (HLO.out u1).mono ?_
      rintro e q1 ⟨z1, rfl, x1, b1'⟩
      obtain ⟨o0, O0, a0, i0, o1, O1, a1, i1, o2, O2, a2, i2, o3, O3, a3, i3, rfl, zl1, zl2⟩ := x1
      have x1 : ZL q1 (.agg #[.bool o0, .slice O0 a0 i0, .bool o1, .slice O1 a1 i1, .bool o2, .slice O2 a2 i2, .bool o3, .slice O3 a3 i3]) s h 5 := ⟨_, _, _, _, _, _, _, _, _, _, _, _, _, _, _, _, rfl, zl1, zl2⟩
      clear zl1 zl2
      (try go_wp2_with fail)
      refine hK.out _ _ b1' ?_
      clear hK K
      (try simp only [Act.put, List.setIfInBounds_toArray, List.set_cons_zero, List.set_cons_succ])
      repeat (first | (refine wpSeq_pure (v := ?_) rfl (by rfl) ?_ ?_; rotate_left 1; (focus (intro wq_ hSq_; (try dsimp only at hSq_); go_simp; (try with_reducible rfl); done)); (try simp only [Act.put, List.setIfInBounds_toArray, List.set_cons_zero, List.set_cons_succ])) | (refine wpSeq_off rfl (by rfl) ?_; (try simp only [Act.put, List.setIfInBounds_toArray, List.set_cons_zero, List.set_cons_succ])))
      refine wpSeq_step rfl (fun u2 g2' s2 K hK => ?_)
      go_simp
      refine (zsquares_any _ _ _ rs _ s h 5 u2 (HR1.out.below (bt HB6.out s2)) (x1.below g2') (by omega) (by omega)).mono ?_
      rintro e q2 ⟨z2, rfl, x2, b2'⟩
      obtain ⟨d3, A3, n3, c3, d3', A3', n3', c3', rfl⟩ := x2.form
      (try go_wp2_with fail)
      refine hK.out _ _ b2' ?_
      clear hK K
      (try simp only [Act.put, List.setIfInBounds_toArray, List.set_cons_zero, List.set_cons_succ])
      repeat (first | (refine wpSeq_pure (v := ?_) rfl (by rfl) ?_ ?_; rotate_left 1; (focus (intro wq_ hSq_; (try dsimp only at hSq_); go_simp; (try with_reducible rfl); done)); (try simp only [Act.put, List.setIfInBounds_toArray, List.set_cons_zero, List.set_cons_succ])) | (refine wpSeq_off rfl (by rfl) ?_; (try simp only [Act.put, List.setIfInBounds_toArray, List.set_cons_zero, List.set_cons_succ])))
      refine wpSeq_step rfl (fun u3 g3' s3 K hK => ?_)
      go_simp
      refine (zlof_any la lb lc ld u3 H1.out (by have := G2.out.1; omega) H3.out (by have := G3.out.1; omega)).mono ?_
      rintro e q3 ⟨z3, rfl, x3, b3'⟩
      obtain ⟨o0, O0, a0, i0, o1, O1, a1, i1, o2, O2, a2, i2, o3, O3, a3, i3, rfl, zl1, zl2⟩ := x3
      have x3 : ZL q3 (.agg #[.bool o0, .slice O0 a0 i0, .bool o1, .slice O1 a1 i1, .bool o2, .slice O2 a2 i2, .bool o3, .slice O3 a3 i3]) (qv la lb) (qv lc ld) 5 := ⟨_, _, _, _, _, _, _, _, _, _, _, _, _, _, _, _, rfl, zl1, zl2⟩
      clear zl1 zl2
      (try go_wp2_with fail)
      refine hK.out _ _ b3' ?_
      clear hK K
      (try simp only [Act.put, List.setIfInBounds_toArray, List.set_cons_zero, List.set_cons_succ])
      repeat (first | (refine wpSeq_pure (v := ?_) rfl (by rfl) ?_ ?_; rotate_left 1; (focus (intro wq_ hSq_; (try dsimp only at hSq_); go_simp; (try with_reducible rfl); done)); (try simp only [Act.put, List.setIfInBounds_toArray, List.set_cons_zero, List.set_cons_succ])) | (refine wpSeq_off rfl (by rfl) ?_; (try simp only [Act.put, List.setIfInBounds_toArray, List.set_cons_zero, List.set_cons_succ])))
      intro wz gz sz_
      (try simp only [endJ, List.drop_succ_cons, List.drop_zero])
      have X3 := x3.below gz
      have X2 := Lib.hid (((x2.below g3').below b3').below gz)
      have SZ := Lib.hid sz_
      clear x1 x2 x3 b1' b2' b3' g1' g2' g3' s1 s2 s3 hst gz sz_ k6 k0
      go_wp2_with fail
      refine (zsquares_any _ _ _ rs _ _ _ 5 wz (HR1.out.below (bt HB6.out SZ.out)) X3 (by omega) (by omega)).mono ?_
      rintro e q4 ⟨z4, rfl, x4, b4'⟩
      obtain ⟨d5, A5, n5, c5, d5', A5', n5', c5', rfl⟩ := x4.form
      go_wp2_with fail
      refine (xcmp_any (X2.out.below b4') x4 (by omega)).mono ?_
      rintro e q5 ⟨z5, rfl, hz5, b5'⟩
      rw [HCV.out] at hz5
      subst hz5
      have HBE := Lib.hid (bt HB1.out (bt HB6.out (bt SZ.out (bt b4' b5'))))
      clear b4' b5' x4 X3
      go_wp2
      go_returns
      exact ⟨_, rfl, rfl, HBE.out⟩
end Go.Proofs.Tb
