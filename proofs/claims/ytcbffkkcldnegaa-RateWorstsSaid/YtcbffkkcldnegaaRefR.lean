/- Contract of the reference for rates: Worst. -/
import Derived.Test.YtcbffkkcldnegaaRefQ
import Derived.Test.YtcbffkkcldnegaaRateE
import Derived.Deep.DeepCutAuto
set_option linter.unusedVariables false
set_option linter.unusedSimpArgs false
namespace Go.Proofs.Tb
open Go.RowKit
attribute [local go_sem] cell_set_same

/-- The greatest absolute error at the first k readings. -/
def wsT (rs : List Rdg) (x y : Rat) : Nat → Rat
  | 0 => 0
  | k + 1 => if wsT rs x y k < rab (erQ x y (tm rs k) (ofs rs k)) then rab (erQ x y (tm rs k) (ofs rs k)) else wsT rs x y k
theorem wsT_t {rs : List Rdg} {x y : Rat} {k : Nat} (h : wsT rs x y k < rab (erQ x y (tm rs k) (ofs rs k))) : rab (erQ x y (tm rs k) (ofs rs k)) = wsT rs x y (k + 1) := (if_pos h).symm
theorem wsT_f {rs : List Rdg} {x y : Rat} {k : Nat} (h : ¬ wsT rs x y k < rab (erQ x y (tm rs k) (ofs rs k))) : wsT rs x y k = wsT rs x y (k + 1) := (if_neg h).symm
theorem zcells {w : World} {g : Nat} {T : TypeId} {a b c d : Value} (h : Blk w g T #[a, b, c, d]) : w.cell? ⟨g, 0, none⟩ = some a ∧ w.cell? ⟨g, 1, none⟩ = some b ∧ w.cell? ⟨g, 2, none⟩ = some c ∧ w.cell? ⟨g, 3, none⟩ = some d := by
  have k := h.cells
  simp only [cellsAre, Nat.zero_add, Nat.reduceAdd, and_true] at k
  exact k
theorem heldPut {w : World} {g : Nat} {T : TypeId} {a b c d : Value} (h : Blk w g T #[a, b, c, d]) (x0 x1 x2 x3 : Value) :
    Held g 4 T w ((((w.setCell ⟨g, 0, none⟩ x0).setCell ⟨g, 1, none⟩ x1).setCell ⟨g, 2, none⟩ x2).setCell ⟨g, 3, none⟩ x3) :=
  Held.set_ (Held.set_ (Held.set_ (Held.set_ h.heldS 0 x0) 1 x1) 2 x2) 3 x3

set_option maxHeartbeats 3200000 in
set_option maxRecDepth 100000 in
theorem zworst_any (A : Option Addr) (n c : Nat) (rs : List Rdg) (l : Value) (x y : Rat) (s : Nat) (w : World) (h : Rd w A n c rs) (hl : ZL w l x y s) (hs : s ≤ 1000000000) :
    Calls Try.prog 45 #[.slice A n c, l] w (Ret (fun v w' => ZX w' v (wsT rs x y n) (2 * s + 12)) w) := by
  have hn := h.le
  have hc := h.cap
  obtain ⟨b0, A0, n0, c0, b1, A1, n1, c1, b2, A2, n2, c2, b3, A3, n3, c3, rfl, hl1, hl2⟩ := hl
  have HL : Hid (ZL w (.agg #[.bool b0, .slice A0 n0 c0, .bool b1, .slice A1 n1 c1, .bool b2, .slice A2 n2 c2, .bool b3, .slice A3 n3 c3]) x y s) := ⟨_, _, _, _, _, _, _, _, _, _, _, _, _, _, _, _, rfl, hl1, hl2⟩
  have H := Lib.hid h
  clear h hl1 hl2
  go_enter Try.func45, Try.ntmps45
  go_wp2_with fail
  obtain ⟨W0, hW0⟩ : ∃ W0, W0 = (w.alloc (.cells #[.bool b0, .slice A0 n0 c0, .bool b1, .slice A1 n1 c1, .bool b2, .slice A2 n2 c2, .bool b3, .slice A3 n3 c3] TQL)).alloc (.cells #[.bool false, .slice none 0 0, .bool false, .slice none 0 0] TQ) := ⟨_, rfl⟩
  have e0 : Blk W0 w.heap.size TQL #[.bool b0, .slice A0 n0 c0, .bool b1, .slice A1 n1 c1, .bool b2, .slice A2 n2 c2, .bool b3, .slice A3 n3 c3] := by rw [hW0]; exact (Blk.new_ _ _ rfl).alloc _
  have e1 : Blk W0 (w.heap.size + 1) TQ #[.bool false, .slice none 0 0, .bool false, .slice none 0 0] := by rw [hW0]; exact Blk.new_ _ _ (by simp)
  have hbw : Below w.heap.size w W0 := by rw [hW0]; go_grown
  rw [← hW0]
  clear hW0
  refine (xwh_any 0 W0 (by omega) (by omega)).mono ?_
  rintro e w1 ⟨v1, rfl, hx1, hb1⟩
  obtain ⟨d1, A5, n5, c5, d1', A5', n5', c5', rfl⟩ := hx1.form
  have E0 := Lib.hid (e0.below hb1)
  have E1 := Lib.hid (e1.below hb1)
  have HB1 := Lib.hid (bt hbw hb1)
  have HX1 := Lib.hid ((hx1.eq (show ((0 : Int) : Rat) = wsT rs x y 0 from rfl)).le (show 5 ≤ 2 * s + 12 by omega))
  have hsz1 : w.heap.size + 1 < w1.heap.size := Nat.lt_of_lt_of_le e1.lt hb1.size
  have HSZ1 := Lib.hid hsz1
  clear e0 e1 hbw hx1 hb1
  go_upto_region 2 with fail
  refine wp_world (fun W => Blk W w1.heap.size TQ #[.bool d1, .slice A5 n5 c5, .bool d1', .slice A5' n5' c5'] ∧ Below w1.heap.size w1 W) (by exact ⟨Blk.new_ _ _ rfl, by go_grown⟩) ?_
  rintro W2 ⟨e2, hbw2⟩
  have E2 := Lib.hid e2
  have HB2 := Lib.hid hbw2
  clear e2 hbw2
  go_wp2
  go_loopw [6] (fun i wr => ∃ (k : Nat) (d : Bool) (B : Option Addr) (m e : Nat) (d' : Bool) (B' : Option Addr) (m' e' : Nat), k ≤ n ∧ i = .int .i64 k ∧ Blk wr w.heap.size TQL #[.bool b0, .slice A0 n0 c0, .bool b1, .slice A1 n1 c1, .bool b2, .slice A2 n2 c2, .bool b3, .slice A3 n3 c3] ∧
      Blk wr (w.heap.size + 1) TQ #[.bool false, .slice none 0 0, .bool false, .slice none 0 0] ∧ Blk wr w1.heap.size TQ #[.bool d, .slice B m e, .bool d', .slice B' m' e'] ∧ ZX wr (.agg #[.bool d, .slice B m e, .bool d', .slice B' m' e']) (wsT rs x y k) (2 * s + 12) ∧ Below w.heap.size w wr) (fun i _ => n - (intOf i).toNat)
  case atStart => exact ⟨0, _, _, _, _, _, _, _, _, Nat.zero_le _, rfl, E0.out.below HB2.out, E1.out.below HB2.out, E2.out, HX1.out.below HB2.out, bt HB1.out HB2.out⟩
  case round =>
    clear E0 E1 HB1 HX1 E2 HB2
    obtain ⟨k, d, B, m, e, d', B', m', e', hk, rfl, f0, f1, f2, hxk, hbw⟩ := hrel
    have F0 := Lib.hid f0
    have F1 := Lib.hid f1
    have F2 := Lib.hid f2
    have HXK := Lib.hid hxk
    have hbwx := hbw
    have HBW := Lib.hid hbw
    clear f0 f1 f2 hxk hbw
    by_cases hkn : k < n
    · have g1 : decide ((k : Int) < (n : Int)) = true := by simp; omega
      have p1 : (k : Int) < (n : Int) := by omega
      obtain ⟨bb, o, rfl, hcell⟩ := (H.out.below HBW.out).at_ (by omega)
      obtain ⟨hct, hcy⟩ := hcell k hkn
      have RNG := Lib.hid (H.out.getD_rng k)
      obtain ⟨t, ht⟩ : ∃ t, (rs.getD k (0, 0)).1 = t := ⟨_, rfl⟩
      obtain ⟨q, hq⟩ : ∃ t, (rs.getD k (0, 0)).2 = t := ⟨_, rfl⟩
      rw [ht] at hct RNG
      rw [hq] at hcy RNG
      have RNG : Hid (rngI t ∧ rngI q) := ⟨⟨RNG.out.1, RNG.out.2.1⟩, RNG.out.2.2⟩
      have HLW : Hid (∀ W, Ext wr W → ZL W (.agg #[.bool b0, .slice A0 n0 c0, .bool b1, .slice A1 n1 c1, .bool b2, .slice A2 n2 c2, .bool b3, .slice A3 n3 c3]) x y s) := fun W hW => HL.out.below (hbwx.trans (hW.mono hbwx.size))
      have HT := Lib.hid (show tm rs k = t from ht)
      have HQ := Lib.hid (show ofs rs k = q from hq)
      clear ht hq hcell
      go_upto_region 5 with fail
      have c3' := fun w' (hh : Ext wr w') => (F0.out.below hh).cells
      have k1 := fun w' (hh : Ext wr w') => hh.cell hct
      have k2 := fun w' (hh : Ext wr w') => hh.cell hcy
      simp only [cellsAre, Nat.zero_add, Nat.reduceAdd, and_true] at c3'
      clear hct hcy hbwx
      go_cut [7] (fun s7 wx => ∃ (R7 : Nat) (d : Bool) (B : Option Addr) (m e : Nat) (d' : Bool) (B' : Option Addr) (m' e' : Nat), s7 = .pointer (some ⟨R7, 0, none⟩) ∧ Blk wx R7 TQ #[.bool d, .slice B m e, .bool d', .slice B' m' e'] ∧ ZX wx (.agg #[.bool d, .slice B m e, .bool d', .slice B' m' e']) (rab (erQ x y t q)) (2 * s + 12) ∧ Below wr.heap.size wr wx)
      case first =>
        have hst : Ext wr wr.drew := Ext.drew _
        go_region_held3 (fun w' => Ext wr w') (first | with_reducible assumption | exact Ext.below (by with_reducible assumption) (by with_reducible assumption) | exact Ext.alloc (by with_reducible assumption) _ | exact Ext.set_ (Ext.set_ (Ext.set_ (Ext.set_ (by assumption) (by first | exact Nat.le_refl _ | exact Ext.le (by assumption)) _) (by first | exact Nat.le_refl _ | exact Ext.le (by assumption)) _) (by first | exact Nat.le_refl _ | exact Ext.le (by assumption)) _) (by first | exact Nat.le_refl _ | exact Ext.le (by assumption)) _)
          (first | (go_at_call 83; have tk := hx1; refine (xabs_any (hx1.below (by first | exact Below.refl _ _ | go_grown))).mono ?_; rintro e y2 ⟨z2, rfl, hx2, hb2⟩; obtain ⟨d2, A6, n6, c6, d2', A6', n6', c6', rfl⟩ := hx2.form; have hext : Ext wr y2 := Ext.below (by assumption) hb2; (first | (have nb : Blk y2 (y1).heap.size TQ #[.bool false, .slice none 0 0, .bool false, .slice none 0 0] := Blk.below (Blk.new_ _ _ rfl) hb2; have nc := nb.cells; have nf := nb.free; simp only [cellsAre, Nat.zero_add, Nat.reduceAdd, and_true] at nc) | (have nb : Blk y2 (y1).heap.size TQ #[.bool false, .slice none 0 0, .bool false, .slice none 0 0] := Blk.below (Blk.drew (Blk.new_ _ _ rfl)) hb2; have nc := nb.cells; have nf := nb.free; simp only [cellsAre, Nat.zero_add, Nat.reduceAdd, and_true] at nc) | (have nb := Blk.below nb hb2; have nc := nb.cells; have nf := nb.free; simp only [cellsAre, Nat.zero_add, Nat.reduceAdd, and_true] at nc) | skip)) | (go_at_call 20; have tk := hst; refine (zerror_any _ x y s t q _ (HLW.out _ (by assumption)) (by omega) RNG.out.1 RNG.out.2).mono ?_; rintro e y1 ⟨z1, rfl, hz1, hb1⟩; have hx1 := hz1.zx; obtain ⟨d1, A5, n5, c5, d1', A5', n5', c5', rfl⟩ := hx1.form; have hext : Ext wr y1 := Ext.below (by assumption) hb1; (first | (have nb : Blk y1 (wr).heap.size TQ #[.bool false, .slice none 0 0, .bool false, .slice none 0 0] := Blk.below (Blk.new_ _ _ rfl) hb1; have nc := nb.cells; have nf := nb.free; simp only [cellsAre, Nat.zero_add, Nat.reduceAdd, and_true] at nc) | (have nb : Blk y1 (wr).heap.size TQ #[.bool false, .slice none 0 0, .bool false, .slice none 0 0] := Blk.below (Blk.drew (Blk.new_ _ _ rfl)) hb1; have nc := nb.cells; have nf := nb.free; simp only [cellsAre, Nat.zero_add, Nat.reduceAdd, and_true] at nc) | (have nb := Blk.below nb hb1; have nc := nb.cells; have nf := nb.free; simp only [cellsAre, Nat.zero_add, Nat.reduceAdd, and_true] at nc) | skip)))
        all_goals (go_wp2_with fail; go_meet; refine ⟨_, d2, A6, n6, c6, d2', A6', n6', c6', rfl, ?_, ?_, ?_⟩)
        all_goals (first | exact (((nb.set_ 0 _).set_ 1 _).set_ 2 _).set_ 3 _ | exact Blk.new_ _ _ rfl | (show Ext wr _; assumption) | exact hx2.held (heldPut nb _ _ _ _) (by decide) | exact hx2.below (by go_grown))
      case rest =>
        obtain ⟨R7, da, Ba, ma, ea, da', Ba', ma', ea', rfl, hb7, hxa, hbx⟩ := hcut
        have hx5 := HXK.out.below hbx
        have k7 := zcells hb7
        have k5 := zcells (F2.out.below hbx)
        have HB7 := Lib.hid hb7
        have HXA := Lib.hid hxa
        have HBX := Lib.hid hbx
        clear c3' k1 k2 hb7 hbx
        go_wp2_with fail
        refine (xcmp_any hxa hx5 (by omega)).mono ?_
        rintro e y1 ⟨z1, rfl, hz1, hd1⟩
        subst hz1
        obtain ⟨cv, hcv⟩ : ∃ cv, cmpR (rab (erQ x y t q)) (wsT rs x y k) = cv := ⟨_, rfl⟩
        rw [hcv]
        have HCV := Lib.hid hcv
        have HD := Lib.hid (bt HBX.out hd1)
        have HB7 := Lib.hid (HB7.out.below hd1)
        have HXA := Lib.hid (HXA.out.below hd1)
        have HX5 := Lib.hid (hx5.below hd1)
        have k7 := zcells HB7.out
        have k5 := zcells (F2.out.below HD.out)
        have kf := (F2.out.below HD.out).free
        clear hxa hx5 hcv hd1
        by_cases hlt : wsT rs x y k < rab (erQ x y t q)
        · have HLT := Lib.hid hlt
          have g2 : decide ((0 : Int) < cv) = true := by simp; rw [← HCV.out]; exact cmpR_gt.2 hlt
          have HE := Lib.hid (show rab (erQ x y t q) = wsT rs x y (k + 1) by rw [← HT.out, ← HQ.out]; exact wsT_t (by rw [HT.out, HQ.out]; exact hlt))
          clear hlt
          go_wp2
          have G2 := F2.out.below HD.out
          have hh := heldPut G2 (.bool da) (.slice Ba ma ea) (.bool da') (.slice Ba' ma' ea')
          go_roundw
          case rel => exact ⟨k + 1, da, Ba, ma, ea, da', Ba', ma', ea', by omega, by go_num, (F0.out.below HD.out).held hh (by have := HSZ1.out; omega), (F1.out.below HD.out).held hh (by have := HSZ1.out; omega), G2.put4 _ _ _ _, by rw [← HE.out]; exact HXA.out.held hh (by decide), hh.below (bt HBW.out HD.out) (by have := HSZ1.out; omega)⟩
          case measure => simp [intOf]; omega
        · have g2 : decide ((0 : Int) < cv) = false := by simp; rw [← HCV.out]; exact Int.not_lt.1 (fun h => hlt (cmpR_gt.1 h))
          have HE := Lib.hid (show wsT rs x y k = wsT rs x y (k + 1) from wsT_f (by rw [HT.out, HQ.out]; exact hlt))
          clear hlt
          go_wp2
          go_roundw
          case rel => exact ⟨k + 1, d, B, m, e, d', B', m', e', by omega, by go_num, F0.out.below HD.out, F1.out.below HD.out, F2.out.below HD.out, by rw [← HE.out]; exact HX5.out, bt HBW.out HD.out⟩
          case measure => simp [intOf]; omega
    · have g1 : decide ((k : Int) < (n : Int)) = false := by simp; omega
      have : k = n := by omega
      subst this
      have k5 := zcells F2.out
      have k4 := zcells F1.out
      have kf := F1.out.free
      have hh1 : Held (w.heap.size + 1) 4 TQ wr wr := F1.out.heldS
      have r1 := (rules (w.heap.size + 1) 4 TQ wr).some
      go_wp2
      (try simp only [Exit.inBlock, Exit.then])
      refine bodyPost_ret (v := .agg #[.bool d, .slice B m e, .bool d', .slice B' m' e']) (by simp [results, Try.results45, go_sem, r1 _ hh1]) rfl ?_
      have hh := heldPut F1.out (.bool d) (.slice B m e) (.bool d') (.slice B' m' e')
      exact ⟨_, rfl, HXK.out.held hh (by decide), hh.below HBW.out (by omega)⟩
end Go.Proofs.Tb
