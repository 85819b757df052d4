/- Contract of the law's squares: the sum of the squares of the errors. -/
import Derived.Test.YtcbffkkcldnegaaRefU
set_option linter.unusedVariables false
set_option linter.unusedSimpArgs false
namespace Go.Proofs.Tb
open Go.RowKit
attribute [local go_sem] cell_set_same

/-- The sum of the squares of the errors at the first k readings. -/
def sqT (rs : List Rdg) (x y : Rat) : Nat → Rat
  | 0 => 0
  | k + 1 => sqT rs x y k + erQ x y (tm rs k) (ofs rs k) * erQ x y (tm rs k) (ofs rs k)
set_option maxHeartbeats 3200000 in
set_option maxRecDepth 100000 in
theorem zsquares_any (A : Option Addr) (n c : Nat) (rs : List Rdg) (l : Value) (x y : Rat) (s : Nat) (w : World) (h : Rd w A n c rs) (hl : ZL w l x y s) (hs : s ≤ 100000000) (hn64 : n ≤ 64) :
    Calls Try.prog 26 #[.slice A n c, l] w (Ret (fun v w' => ZX w' v (sqT rs x y n) (5 + 64 * (4 * s + 25))) w) := by
  have hn := h.le
  have hc := h.cap
  obtain ⟨b0, A0, n0, c0, b1, A1, n1, c1, b2, A2, n2, c2, b3, A3, n3, c3, rfl, hl1, hl2⟩ := hl
  have HL : Hid (ZL w (.agg #[.bool b0, .slice A0 n0 c0, .bool b1, .slice A1 n1 c1, .bool b2, .slice A2 n2 c2, .bool b3, .slice A3 n3 c3]) x y s) := ⟨_, _, _, _, _, _, _, _, _, _, _, _, _, _, _, _, rfl, hl1, hl2⟩
  have H := Lib.hid h
  clear h hl1 hl2
  go_enter Try.func26, Try.ntmps26
  go_wp2_with fail
  obtain ⟨W0, hW0⟩ : ∃ W0, W0 = (w.alloc (.cells #[.bool b0, .slice A0 n0 c0, .bool b1, .slice A1 n1 c1, .bool b2, .slice A2 n2 c2, .bool b3, .slice A3 n3 c3] TQL)).alloc (.cells #[.bool false, .slice none 0 0, .bool false, .slice none 0 0] TQ) := ⟨_, rfl⟩
  have e0 : Blk W0 w.heap.size TQL #[.bool b0, .slice A0 n0 c0, .bool b1, .slice A1 n1 c1, .bool b2, .slice A2 n2 c2, .bool b3, .slice A3 n3 c3] := by rw [hW0]; exact (Blk.new_ _ _ rfl).alloc _
  have e1 : Blk W0 (w.heap.size + 1) TQ #[.bool false, .slice none 0 0, .bool false, .slice none 0 0] := by rw [hW0]; exact Blk.new_ _ _ (by simp)
  have hbw : Below w.heap.size w W0 := by rw [hW0]; go_grown
  rw [← hW0]
  clear hW0
  refine (xwhole_any 0 W0 (by omega) (by omega)).mono ?_
  rintro e w1 ⟨v1, rfl, hx1, hb1⟩
  obtain ⟨d1, A5, n5, c5, d1', A5', n5', c5', rfl⟩ := hx1.form
  have E0 := Lib.hid (e0.below hb1)
  have E1 := Lib.hid (e1.below hb1)
  have HB1 := Lib.hid (bt hbw hb1)
  have HX1 := Lib.hid ((hx1.eq (show ((0 : Int) : Rat) = sqT rs x y 0 from rfl)))
  have hsz1 : w.heap.size + 1 < w1.heap.size := Nat.lt_of_lt_of_le e1.lt hb1.size
  have HSZ1 := Lib.hid hsz1
  clear e0 e1 hbw hx1 hb1
  go_upto_region 2 with fail
  refine wp_world (fun W => Blk W w1.heap.size TQ #[.bool d1, .slice A5 n5 c5, .bool d1', .slice A5' n5' c5'] ∧ Below w1.heap.size w1 W) (by exact ⟨Blk.new_ _ _ rfl, by go_grown⟩) ?_
  rintro W2 ⟨e2, hbw2⟩
  have E2 := Lib.hid e2
  have HB2 := Lib.hid hbw2
  clear e2 hbw2
  go_wp2
  go_loopw [6] (fun i wr => ∃ (k : Nat) (d : Bool) (B : Option Addr) (m e : Nat) (d' : Bool) (B' : Option Addr) (m' e' : Nat), k ≤ n ∧ i = .int .i64 k ∧ Blk wr w.heap.size TQL #[.bool b0, .slice A0 n0 c0, .bool b1, .slice A1 n1 c1, .bool b2, .slice A2 n2 c2, .bool b3, .slice A3 n3 c3] ∧
      Blk wr (w.heap.size + 1) TQ #[.bool false, .slice none 0 0, .bool false, .slice none 0 0] ∧ Blk wr w1.heap.size TQ #[.bool d, .slice B m e, .bool d', .slice B' m' e'] ∧ ZX wr (.agg #[.bool d, .slice B m e, .bool d', .slice B' m' e']) (sqT rs x y k) (5 + k * (4 * s + 25)) ∧ Below w.heap.size w wr) (fun i _ => n - (intOf i).toNat)
  case atStart => exact ⟨0, _, _, _, _, _, _, _, _, Nat.zero_le _, rfl, E0.out.below HB2.out, E1.out.below HB2.out, E2.out, (HX1.out.below HB2.out).le (by omega), bt HB1.out HB2.out⟩
  case round =>
    clear E0 E1 HB1 HX1 E2 HB2
    obtain ⟨k, d, B, m, e, d', B', m', e', hk, rfl, f0, f1, f2, hxk, hbw⟩ := hrel
    have F0 := Lib.hid f0
    have F1 := Lib.hid f1
    have F2 := Lib.hid f2
    have hSB : 5 + k * (4 * s + 25) ≤ 5 + 64 * (4 * s + 25) := Nat.add_le_add_left (Nat.mul_le_mul_right _ (by omega)) 5
    have hSE : 5 + k * (4 * s + 25) + (4 * s + 25) = 5 + (k + 1) * (4 * s + 25) := by rw [Nat.add_mul]; omega
    obtain ⟨S, hS⟩ : ∃ S, 5 + k * (4 * s + 25) = S := ⟨_, rfl⟩
    rw [hS] at hxk hSB hSE
    have HSE := Lib.hid hSE
    have HSS := Lib.hid hS
    clear hS hSE
    have HXK := Lib.hid hxk
    have hbwx := hbw
    have HBW := Lib.hid hbw
    clear f0 f1 f2 hxk hbw
    by_cases hkn : k < n
    · have g1 : decide ((k : Int) < (n : Int)) = true := by simp; omega
      have p1 : (k : Int) < (n : Int) := by omega
      obtain ⟨bb, o, rfl, hcell⟩ := (H.out.below HBW.out).at_ (by omega)
      obtain ⟨hct, hcy⟩ := hcell k hkn
      have RNG := Lib.hid (H.out.getD_rng k)
      obtain ⟨t, ht⟩ : ∃ t, (rs.getD k (0, 0)).1 = t := ⟨_, rfl⟩
      obtain ⟨q, hq⟩ : ∃ t, (rs.getD k (0, 0)).2 = t := ⟨_, rfl⟩
      rw [ht] at hct RNG
      rw [hq] at hcy RNG
      have RNG : Hid (rngI t ∧ rngI q) := ⟨⟨RNG.out.1, RNG.out.2.1⟩, RNG.out.2.2⟩
      have HLW : Hid (∀ W, Ext wr W → ZL W (.agg #[.bool b0, .slice A0 n0 c0, .bool b1, .slice A1 n1 c1, .bool b2, .slice A2 n2 c2, .bool b3, .slice A3 n3 c3]) x y s) := fun W hW => HL.out.below (hbwx.trans (hW.mono hbwx.size))
      have HT := Lib.hid (show tm rs k = t from ht)
      have HQ := Lib.hid (show ofs rs k = q from hq)
      clear ht hq hcell
      go_upto_region 5 with fail
      have c3' := fun w' (hh : Ext wr w') => (F0.out.below hh).cells
      have k1 := fun w' (hh : Ext wr w') => hh.cell hct
      have k2 := fun w' (hh : Ext wr w') => hh.cell hcy
      simp only [cellsAre, Nat.zero_add, Nat.reduceAdd, and_true] at c3'
      clear hct hcy hbwx
      have hst : Ext wr wr.drew := Ext.drew _
      refine wp_region_adv 7 [⟨6, 7, TQ, #[.bool false, .slice none 0 0, .bool false, .slice none 0 0]⟩] [(0, true), (1, true), (2, true), (3, true), (4, true), (5, false)] (by kernel_rfl) (by kernel_rfl) (by kernel_rfl) (by intro it hit; (repeat (rcases List.mem_cons.1 hit with rfl | hit; (focus (intro o ho ev w; injection ho with ho; subst ho; kernel_rfl)))); cases hit) (fun _ _ _ _ _ => ⟨fun h => h, fun h => h⟩) hst ?_
      repeat (first | (refine wpSeq_pure (v := ?_) rfl (by rfl) ?_ ?_; rotate_left 1; (focus (intro wq_ hSq_; (try dsimp only at hSq_); go_simp; (try with_reducible rfl); done)); (try simp only [Act.put, List.setIfInBounds_toArray, List.set_cons_zero, List.set_cons_succ])) | (refine wpSeq_off rfl (by rfl) ?_; (try simp only [Act.put, List.setIfInBounds_toArray, List.set_cons_zero, List.set_cons_succ])))
      refine wpSeq_step rfl (fun u1 g1' s1 K hK => ?_)
      go_simp
      refine (zerror_any _ x y s t q _ (HLW.out _ s1) (by omega) RNG.out.1 RNG.out.2).mono ?_
      rintro e y1 ⟨z1, rfl, hz1, b1'⟩
      have x1 := hz1.zx
      obtain ⟨d2, A6, n6, c6, d2', A6', n6', c6', rfl⟩ := x1.form
      (try go_wp2_with fail)
      refine hK.out _ _ b1' ?_
      clear hK K
      (try simp only [Act.put, List.setIfInBounds_toArray, List.set_cons_zero, List.set_cons_succ])
      repeat (first | (refine wpSeq_pure (v := ?_) rfl (by rfl) ?_ ?_; rotate_left 1; (focus (intro wq_ hSq_; (try dsimp only at hSq_); go_simp; (try with_reducible rfl); done)); (try simp only [Act.put, List.setIfInBounds_toArray, List.set_cons_zero, List.set_cons_succ])) | (refine wpSeq_off rfl (by rfl) ?_; (try simp only [Act.put, List.setIfInBounds_toArray, List.set_cons_zero, List.set_cons_succ])))
      intro wz gz sz_
      (try simp only [endJ, List.drop_succ_cons, List.drop_zero])
      intro R1 hr1 hu_ hB1
      (try simp only [endJ, Act.put, ptr, List.setIfInBounds_toArray, List.set_cons_zero, List.set_cons_succ])
      clear hu_
      have kR := zcells hB1
      have kf := hB1.free
      have X1 := Lib.hid (x1.below gz)
      have SZ := Lib.hid sz_
      have HBB := Lib.hid hB1
      clear x1 hz1 b1' g1' s1 c3' k1 k2 hst hB1 gz sz_
      go_upto_region 6 with fail
      refine wp_world (fun W => Blk W R1 TQ #[.bool d2, .slice A6 n6 c6, .bool d2', .slice A6' n6' c6'] ∧ Held R1 4 TQ wz W) (by exact ⟨HBB.out.put4 _ _ _ _, heldPut HBB.out _ _ _ _⟩) ?_
      rintro W3 ⟨e3, hh3⟩
      clear kR kf
      have hr1' : wr.heap.size ≤ R1 := hr1
      have F0 := Lib.hid ((F0.out.below SZ.out).held hh3 (by have := F0.out.lt; omega))
      have F1 := Lib.hid ((F1.out.below SZ.out).held hh3 (by have := F1.out.lt; omega))
      have F2 := Lib.hid ((F2.out.below SZ.out).held hh3 (by have := F2.out.lt; omega))
      have XE := Lib.hid (X1.out.held hh3 (by decide))
      have hb3 : Below wr.heap.size wr W3 := hh3.below SZ.out hr1'
      have HX5 := Lib.hid (HXK.out.below hb3)
      have HB3 := Lib.hid (bt HBW.out hb3)
      clear hh3 hb3 SZ HBB X1 hr1 hr1'
      have k7 := cells4 e3
      have k5 := cells4 F2.out
      have hst : Ext W3 W3.drew := Ext.drew _
      clear e3
      refine wp_region_adv 4 [] [(0, true), (1, true), (2, true), (3, false)] (by kernel_rfl) (by kernel_rfl) (by kernel_rfl) (by intro it hit; (repeat (rcases List.mem_cons.1 hit with rfl | hit; (focus (intro o ho ev w; injection ho with ho; subst ho; kernel_rfl)))); cases hit) (fun _ _ _ _ _ => ⟨fun h => h, fun h => h⟩) hst ?_
      repeat (first | (refine wpSeq_pure (v := ?_) rfl (by rfl) ?_ ?_; rotate_left 1; (focus (intro wq_ hSq_; (try dsimp only at hSq_); go_simp; (try with_reducible rfl); done)); (try simp only [Act.put, List.setIfInBounds_toArray, List.set_cons_zero, List.set_cons_succ])) | (refine wpSeq_off rfl (by rfl) ?_; (try simp only [Act.put, List.setIfInBounds_toArray, List.set_cons_zero, List.set_cons_succ])))
      refine wpSeq_step rfl (fun u1 g1' s1 K hK => ?_)
      go_simp
      refine (xmul_any (XE.out.below s1) (XE.out.below s1) (by omega)).mono ?_
      rintro e y1 ⟨z1, rfl, x1, b1'⟩
      obtain ⟨d3, A7, n7, c7, d3', A7', n7', c7', rfl⟩ := x1.form
      (try go_wp2_with fail)
      refine hK.out _ _ b1' ?_
      clear hK K
      (try simp only [Act.put, List.setIfInBounds_toArray, List.set_cons_zero, List.set_cons_succ])
      repeat (first | (refine wpSeq_pure (v := ?_) rfl (by rfl) ?_ ?_; rotate_left 1; (focus (intro wq_ hSq_; (try dsimp only at hSq_); go_simp; (try with_reducible rfl); done)); (try simp only [Act.put, List.setIfInBounds_toArray, List.set_cons_zero, List.set_cons_succ])) | (refine wpSeq_off rfl (by rfl) ?_; (try simp only [Act.put, List.setIfInBounds_toArray, List.set_cons_zero, List.set_cons_succ])))
      intro wz gz sz_
      (try simp only [endJ, List.drop_succ_cons, List.drop_zero])
      have X1 := x1.below gz
      have SZ := Lib.hid sz_
      clear x1 b1' g1' s1 hst gz sz_ k7 k5
      go_wp2_with fail
      refine (xadd_any (HX5.out.below SZ.out) X1 (by omega)).mono ?_
      rintro e y2 ⟨z2, rfl, x2, b2'⟩
      go_wp2_with fail
      refine (xlowest_any x2 (by omega)).mono ?_
      rintro e y3 ⟨z3, rfl, hz3, b3'⟩
      have x3 := hz3.zx
      obtain ⟨d4, A8, n8, c8, d4', A8', n8', c8', rfl⟩ := x3.form
      have HD := Lib.hid (show Ext W3 y3 from bt SZ.out (bt b2' b3'))
      have X3 := Lib.hid x3
      have G2 := Lib.hid (F2.out.below HD.out)
      have kc := zcells G2.out
      have kf := G2.out.free
      clear x3 hz3 x2 X1 b2' b3'
      go_wp2
      have hh := heldPut G2.out (.bool d4) (.slice A8 n8 c8) (.bool d4') (.slice A8' n8' c8')
      have HE : Hid (sqT rs x y k + erQ x y t q * erQ x y t q = sqT rs x y (k + 1)) := by rw [← HT.out, ← HQ.out]; exact rfl
      go_roundw
      case rel => exact ⟨k + 1, d4, A8, n8, c8, d4', A8', n8', c8', by omega, by go_num, (F0.out.below HD.out).held hh (by have := HSZ1.out; omega), (F1.out.below HD.out).held hh (by have := HSZ1.out; omega), G2.out.put4 _ _ _ _, ((X3.out.eq HE.out).le (by rw [← HSE.out]; omega)).held hh (by decide), hh.below (bt HB3.out HD.out) (by have := HSZ1.out; omega)⟩
      case measure => simp [intOf]; omega
    · have g1 : decide ((k : Int) < (n : Int)) = false := by simp; omega
      have : k = n := by omega
      subst this
      have k5 := zcells F2.out
      have k4 := zcells F1.out
      have kf := F1.out.free
      have hh1 : Held (w.heap.size + 1) 4 TQ wr wr := F1.out.heldS
      have r1 := (rules (w.heap.size + 1) 4 TQ wr).some
      go_wp2
      (try simp only [Exit.inBlock, Exit.then])
      refine bodyPost_ret (v := .agg #[.bool d, .slice B m e, .bool d', .slice B' m' e']) (by simp [results, Try.results26, go_sem, r1 _ hh1]) rfl ?_
      have hh := heldPut F1.out (.bool d) (.slice B m e) (.bool d') (.slice B' m' e')
      exact ⟨_, rfl, (HXK.out.held hh (by decide)).le hSB, hh.below HBW.out (by omega)⟩
end Go.Proofs.Tb
