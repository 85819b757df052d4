/- Contract of the reference for rates: Alternate. -/
import Derived.Test.YthcialpcefhnnaaRefU
import Derived.Test.YthcialpcefhnnaaRef3
import Derived.Test.YthcialpcefhnnaaRateL
set_option linter.unusedVariables false
set_option linter.unusedSimpArgs false
namespace Go.Proofs.Tb
open Go.RowKit
attribute [local go_sem] cell_set_same

/-- Are a line's errors at three readings of a size, with signs that alternate? -/
def Alt (rs : List Rdg) (x y z : Rat) (i j k : Nat) : Prop :=
  rab (erQ x y (tm rs i) (ofs rs i)) = z ∧ erQ x y (tm rs i) (ofs rs i) = erQ x y (tm rs k) (ofs rs k) ∧ erQ x y (tm rs i) (ofs rs i) + erQ x y (tm rs j) (ofs rs j) = 0 ∧ erQ x y (tm rs i) (ofs rs i) ≠ erQ x y (tm rs j) (ofs rs j)
instance (rs : List Rdg) (x y z : Rat) (i j k : Nat) : Decidable (Alt rs x y z i j k) := by unfold Alt; infer_instance
def altB (rs : List Rdg) (x y z : Rat) (i j k : Nat) : Bool := decide (Alt rs x y z i j k)
theorem altB_t {rs : List Rdg} {x y z : Rat} {i j k : Nat} (h : Alt rs x y z i j k) : altB rs x y z i j k = true := by unfold altB; simpa using h
theorem altB_f {rs : List Rdg} {x y z : Rat} {i j k : Nat} (h : ¬ Alt rs x y z i j k) : altB rs x y z i j k = false := by unfold altB; simpa using h
/-- Three fractions' variables are written. -/
structure Put3 (w W : World) (a b c : Nat) (cs ds es : Array Value) : Prop where
  fa : Blk W a TQ cs
  fb : Blk W b TQ ds
  fc : Blk W c TQ es
  far : ∀ g t u, g ≠ a → g ≠ b → g ≠ c → Blk w g t u → Blk W g t u
  zx : ∀ v x s, ZX w v x s → ZX W v x s
  below : ∀ w0 : World, Below w0.heap.size w0 w → w0.heap.size ≤ a → w0.heap.size ≤ b → w0.heap.size ≤ c → Below w0.heap.size w0 W
theorem put3 {w : World} {a b c : Nat} {p0 p1 p2 p3 q0 q1 q2 q3 r0 r1 r2 r3 : Value} (h1 : Blk w a TQ #[p0, p1, p2, p3]) (h2 : Blk w b TQ #[q0, q1, q2, q3]) (h3 : Blk w c TQ #[r0, r1, r2, r3]) (n1 : a ≠ b) (n2 : a ≠ c) (n3 : b ≠ c)
    (x0 x1 x2 x3 y0 y1 y2 y3 z0 z1 z2 z3 : Value) :
    Put3 w ((((((((((((w.setCell ⟨a, 0, none⟩ x0).setCell ⟨a, 1, none⟩ x1).setCell ⟨a, 2, none⟩ x2).setCell ⟨a, 3, none⟩ x3).setCell ⟨b, 0, none⟩ y0).setCell ⟨b, 1, none⟩ y1).setCell ⟨b, 2, none⟩ y2).setCell ⟨b, 3, none⟩ y3).setCell ⟨c, 0, none⟩ z0).setCell ⟨c, 1, none⟩ z1).setCell ⟨c, 2, none⟩ z2).setCell ⟨c, 3, none⟩ z3) a b c #[x0, x1, x2, x3] #[y0, y1, y2, y3] #[z0, z1, z2, z3] := by
  have ha := heldPut h1 x0 x1 x2 x3
  have h2' := h2.held ha (Ne.symm n1)
  have hb := heldPut h2' y0 y1 y2 y3
  have h3' := (h3.held ha (Ne.symm n2)).held hb (Ne.symm n3)
  have hc := heldPut h3' z0 z1 z2 z3
  exact ⟨((h1.put4 x0 x1 x2 x3).held hb n1).held hc n2, (h2'.put4 y0 y1 y2 y3).held hc n3, h3'.put4 z0 z1 z2 z3, fun g t u g1 g2 g3 hg => ((hg.held ha g1).held hb g2).held hc g3,
    fun v x s hx => ((hx.held ha (by decide)).held hb (by decide)).held hc (by decide), fun w0 h0 ga gb gc => hc.below (hb.below (ha.below h0 ga) gb) gc⟩
theorem cmpR_ne {x y : Rat} (h : x ≠ y) : cmpR x y ≠ 0 := fun h' => h (cmpR_eq.1 h')

set_option maxHeartbeats 12800000 in
set_option maxRecDepth 100000 in
theorem zalt_any (A : Option Addr) (n c : Nat) (rs : List Rdg) (l q : Value) (x y z : Rat) (s : Nat) (B : Option Addr) (cb : Nat) (I J L : Nat) (w : World) (h : Rd w A n c rs) (hl : ZL w l x y s) (hq : ZX w q z s) (hs : s ≤ 100000)
    (hi : Il w B 3 cb [(I : Int), (J : Int), (L : Int)]) (h1 : I < J) (h2 : J < L) (h3 : L < n) (hn64 : n ≤ 64) :
    Calls Try.prog 9 #[.slice A n c, l, q, .slice B 3 cb] w (Ret (fun v _ => v = .bool (altB rs x y z I J L)) w) := by
  have hn := h.le
  have hc := h.cap
  have hcb := hi.cap
  have hcb2 := hi.le
  obtain ⟨b, o, rfl, _⟩ := h.at_ (by omega)
  obtain ⟨bi, oi, rfl, hci⟩ := hi.at_ (by omega)
  have hc0 := hci 0 (by omega)
  have hc1 := hci 1 (by omega)
  have hc2 := hci 2 (by omega)
  have HI := Lib.hid (show w.cell? ⟨bi, oi, none⟩ = some (.int .i64 (I : Int)) ∧ w.cell? ⟨bi, oi + 1, none⟩ = some (.int .i64 (J : Int)) ∧ w.cell? ⟨bi, oi + 2, none⟩ = some (.int .i64 (L : Int)) from ⟨hc0, hc1, hc2⟩)
  have HR := Lib.hid h
  have HKC : Hid (∀ w', Ext w w' → w'.cell? ⟨b, o + I * 2, none⟩ = some (.int .i64 (tm rs I)) ∧ w'.cell? ⟨b, o + I * 2 + 1, none⟩ = some (.int .i64 (ofs rs I)) ∧ w'.cell? ⟨b, o + J * 2, none⟩ = some (.int .i64 (tm rs J)) ∧ w'.cell? ⟨b, o + J * 2 + 1, none⟩ = some (.int .i64 (ofs rs J)) ∧ w'.cell? ⟨b, o + L * 2, none⟩ = some (.int .i64 (tm rs L)) ∧ w'.cell? ⟨b, o + L * 2 + 1, none⟩ = some (.int .i64 (ofs rs L))) := fun w' hb => by
    obtain ⟨b', o', he, hcell⟩ := (HR.out.below hb).at_ (by omega)
    injection he with he
    injection he with h1 h2 _
    subst h1 h2
    exact ⟨(hcell I (by omega)).1, (hcell I (by omega)).2, (hcell J (by omega)).1, (hcell J (by omega)).2, (hcell L (by omega)).1, (hcell L (by omega)).2⟩
  have RI := Lib.hid (h.getD_rng I)
  have RJ := Lib.hid (h.getD_rng J)
  have RL := Lib.hid (h.getD_rng L)
  have HAL : Hid (Alt rs x y z I J L ↔ rab (erQ x y (tm rs I) (ofs rs I)) = z ∧ erQ x y (tm rs I) (ofs rs I) = erQ x y (tm rs L) (ofs rs L) ∧ erQ x y (tm rs I) (ofs rs I) + erQ x y (tm rs J) (ofs rs J) = 0 ∧ erQ x y (tm rs I) (ofs rs I) ≠ erQ x y (tm rs J) (ofs rs J)) := show _ ↔ _ from Iff.rfl
  obtain ⟨ti, hti⟩ : ∃ x, tm rs I = x := ⟨_, rfl⟩
  obtain ⟨yi, hyi⟩ : ∃ x, ofs rs I = x := ⟨_, rfl⟩
  obtain ⟨tj, htj⟩ : ∃ x, tm rs J = x := ⟨_, rfl⟩
  obtain ⟨yj, hyj⟩ : ∃ x, ofs rs J = x := ⟨_, rfl⟩
  obtain ⟨tl, htl⟩ : ∃ x, tm rs L = x := ⟨_, rfl⟩
  obtain ⟨yl, hyl⟩ : ∃ x, ofs rs L = x := ⟨_, rfl⟩
  have RI : Hid (rngI ti ∧ rngI yi) := by rw [← hti, ← hyi]; exact ⟨⟨RI.out.1, RI.out.2.1⟩, RI.out.2.2⟩
  have RJ : Hid (rngI tj ∧ rngI yj) := by rw [← htj, ← hyj]; exact ⟨⟨RJ.out.1, RJ.out.2.1⟩, RJ.out.2.2⟩
  have RL : Hid (rngI tl ∧ rngI yl) := by rw [← htl, ← hyl]; exact ⟨⟨RL.out.1, RL.out.2.1⟩, RL.out.2.2⟩
  rw [hti, hyi, htj, hyj, htl, hyl] at HKC HAL
  obtain ⟨b0, A0, n0, c0, b1, A1, n1, c1, b2, A2, n2, c2, b3, A3, n3, c3, rfl, hl1, hl2⟩ := hl
  have HL : Hid (ZL w (.agg #[.bool b0, .slice A0 n0 c0, .bool b1, .slice A1 n1 c1, .bool b2, .slice A2 n2 c2, .bool b3, .slice A3 n3 c3]) x y s) := ⟨_, _, _, _, _, _, _, _, _, _, _, _, _, _, _, _, rfl, hl1, hl2⟩
  obtain ⟨e0, Q0, m0, f0, e1, Q1, m1, f1, rfl⟩ := hq.form
  have HQ := Lib.hid hq
  have pI : (I : Int) < (n : Int) := by omega
  have pJ : (J : Int) < (n : Int) := by omega
  have pL : (L : Int) < (n : Int) := by omega
  have w1 : IntKind.i64.wrap ((J : Int) - 1) = (J : Int) - 1 := IntWalk.i64_in _ (by omega)
  have w2 : IntKind.i64.wrap ((L : Int) - 1) = (L : Int) - 1 := IntWalk.i64_in _ (by omega)
  have gL : decide ((n : Int) ≤ (L : Int)) = false := by simp; omega
  have HIN1 : Hid (∀ W : World, Calls Try.prog 28 #[.int .i64 (I : Int), .int .i64 0, .int .i64 ((J : Int) - 1)] W fun e w' => e = .returned (.bool true) ∧ w' = W) := fun W => by
    have := zin_any (I : Int) 0 ((J : Int) - 1) W
    rw [inB_t (by omega) (by omega)] at this
    exact this
  have HIN2 : Hid (∀ W : World, Calls Try.prog 28 #[.int .i64 (J : Int), .int .i64 0, .int .i64 ((L : Int) - 1)] W fun e w' => e = .returned (.bool true) ∧ w' = W) := fun W => by
    have := zin_any (J : Int) 0 ((L : Int) - 1) W
    rw [inB_t (by omega) (by omega)] at this
    exact this
  clear hti hyi htj hyj htl hyl h hl1 hl2 hq hi hci hc0 hc1 hc2 h1 h2 h3
  go_enter Try.func9, Try.ntmps9
  go_upto_region 1 with fail
  refine wp_world (fun W0 => Blk W0 w.heap.size TQL #[.bool b0, .slice A0 n0 c0, .bool b1, .slice A1 n1 c1, .bool b2, .slice A2 n2 c2, .bool b3, .slice A3 n3 c3] ∧ Blk W0 (w.heap.size + 1) TQ #[.bool e0, .slice Q0 m0 f0, .bool e1, .slice Q1 m1 f1] ∧ Below w.heap.size w W0) (by exact ⟨(Blk.new_ _ _ rfl).alloc _, Blk.new_ _ _ (by simp), by go_grown⟩) ?_
  rintro W0 ⟨x5, x6, hbw⟩
  have X5 := Lib.hid x5
  have X6 := Lib.hid x6
  have HB0 := Lib.hid hbw
  have ki := fun w' (hh : Ext W0 w') => (show w'.cell? ⟨bi, oi, none⟩ = some (.int .i64 (I : Int)) ∧ w'.cell? ⟨bi, oi + 1, none⟩ = some (.int .i64 (J : Int)) ∧ w'.cell? ⟨bi, oi + 2, none⟩ = some (.int .i64 (L : Int)) from ⟨Ext.cell (bt hbw hh) HI.out.1, Ext.cell (bt hbw hh) HI.out.2.1, Ext.cell (bt hbw hh) HI.out.2.2⟩)
  have KI := Lib.hid ki
  have hst : Ext W0 W0.drew := Ext.drew _
  clear x5 x6 hbw
  refine wp_region_adv 31 [] [(0, true, some 12, none), (1, true, some 13, none), (2, true, some 14, none), (3, true, some 15, none), (4, true, some 16, some (15, false)), (5, true, some 17, some (15, false)), (6, true, some 18, some (15, false)), (7, true, some 19, some (15, false)), (8, true, some 20, some (15, false)), (9, true, some 21, some (15, false)), (10, true, some 22, some (15, false)), (11, false, some 23, some (15, false)), (12, true, some 24, some (15, false)), (13, true, some 25, none), (14, true, some 26, none), (15, true, some 27, some (26, false)), (16, true, some 28, some (26, false)), (17, true, some 29, some (26, false)), (18, true, some 30, some (26, false)), (19, true, some 31, some (26, false)), (20, true, some 32, some (26, false)), (21, true, some 33, some (26, false)), (22, false, some 34, some (26, false)), (23, true, some 35, some (26, false)), (24, true, some 36, none), (25, true, some 37, none), (26, true, some 38, some (37, false)), (27, true, some 39, some (37, false)), (28, true, some 40, some (37, false)), (29, true, some 41, some (37, false)), (30, true, some 42, some (37, false))] (by kernel_rfl) (by kernel_rfl) (by kernel_rfl) (by intro it hit; (repeat (rcases List.mem_cons.1 hit with rfl | hit; (focus (intro o ho ev w; injection ho with ho; subst ho; kernel_rfl)))); cases hit) (fun _ _ _ _ _ => ⟨fun h => h, fun h => h⟩) hst ?_
  repeat (first | (refine wpSeq_pure (v := ?_) rfl ?_ ?_; rotate_left 1; (focus (intro wq_ hSq_; (try dsimp only at hSq_); go_simp; (try with_reducible rfl); done)); (try simp only [Act.put, List.setIfInBounds_toArray, List.set_cons_zero, List.set_cons_succ])) | (refine wpSeq_pureG (v := ?_) rfl rfl ?_ ?_; rotate_left 1; (focus (intro wq_ hSq_; (try dsimp only at hSq_); go_simp; (try with_reducible rfl); done)); (try simp only [Act.put, List.setIfInBounds_toArray, List.set_cons_zero, List.set_cons_succ])) | (refine wpSeq_off rfl rfl ?_; (try simp only [Act.put, List.setIfInBounds_toArray, List.set_cons_zero, List.set_cons_succ])) | (refine wpSeq_offU rfl ?_; (try simp only [Act.put, List.setIfInBounds_toArray, List.set_cons_zero, List.set_cons_succ])))
  first | refine wpSeq_call rfl (fun u1 g1' s1 K hK => ?_) | refine wpSeq_callG rfl rfl (fun u1 g1' s1 K hK => ?_)
  go_simp
  refine (HIN1.out u1).mono ?_
  rintro e y1 ⟨rfl, rfl⟩
  (try go_wp2_with fail)
  refine hK.out _ _ (Ext.refl _) ?_
  clear hK K
  (try simp only [Act.put, List.setIfInBounds_toArray, List.set_cons_zero, List.set_cons_succ])
  repeat (first | (refine wpSeq_pure (v := ?_) rfl ?_ ?_; rotate_left 1; (focus (intro wq_ hSq_; (try dsimp only at hSq_); go_simp; (try with_reducible rfl); done)); (try simp only [Act.put, List.setIfInBounds_toArray, List.set_cons_zero, List.set_cons_succ])) | (refine wpSeq_pureG (v := ?_) rfl rfl ?_ ?_; rotate_left 1; (focus (intro wq_ hSq_; (try dsimp only at hSq_); go_simp; (try with_reducible rfl); done)); (try simp only [Act.put, List.setIfInBounds_toArray, List.set_cons_zero, List.set_cons_succ])) | (refine wpSeq_off rfl rfl ?_; (try simp only [Act.put, List.setIfInBounds_toArray, List.set_cons_zero, List.set_cons_succ])) | (refine wpSeq_offU rfl ?_; (try simp only [Act.put, List.setIfInBounds_toArray, List.set_cons_zero, List.set_cons_succ])))
  first | refine wpSeq_call rfl (fun u2 g2' s2 K hK => ?_) | refine wpSeq_callG rfl rfl (fun u2 g2' s2 K hK => ?_)
  go_simp
  refine (HIN2.out u2).mono ?_
  rintro e y2 ⟨rfl, rfl⟩
  (try go_wp2_with fail)
  refine hK.out _ _ (Ext.refl _) ?_
  clear hK K
  (try simp only [Act.put, List.setIfInBounds_toArray, List.set_cons_zero, List.set_cons_succ])
  repeat (first | (refine wpSeq_pure (v := ?_) rfl ?_ ?_; rotate_left 1; (focus (intro wq_ hSq_; (try dsimp only at hSq_); go_simp; (try with_reducible rfl); done)); (try simp only [Act.put, List.setIfInBounds_toArray, List.set_cons_zero, List.set_cons_succ])) | (refine wpSeq_pureG (v := ?_) rfl rfl ?_ ?_; rotate_left 1; (focus (intro wq_ hSq_; (try dsimp only at hSq_); go_simp; (try with_reducible rfl); done)); (try simp only [Act.put, List.setIfInBounds_toArray, List.set_cons_zero, List.set_cons_succ])) | (refine wpSeq_off rfl rfl ?_; (try simp only [Act.put, List.setIfInBounds_toArray, List.set_cons_zero, List.set_cons_succ])) | (refine wpSeq_offU rfl ?_; (try simp only [Act.put, List.setIfInBounds_toArray, List.set_cons_zero, List.set_cons_succ])))
  intro W1 gz sz_
  (try simp only [endJ, List.drop_succ_cons, List.drop_zero])
  have HB1 := Lib.hid (show Ext W0 W1 from sz_)
  clear g1' g2' s1 s2 gz sz_ ki hst w1 w2
  go_upto_region 3 with fail
  have k5 := fun w' (hh : Ext W1 w') => ((X5.out.below HB1.out).below hh).cells
  simp only [cellsAre, Nat.zero_add, Nat.reduceAdd, and_true] at k5
  have ki := fun w' (hh : Ext W1 w') => KI.out w' (bt HB1.out hh)
  have kr := fun w' (hh : Ext W1 w') => HKC.out w' (bt HB0.out (bt HB1.out hh))
  have hst : Ext W1 W1.drew := Ext.drew _
  have HLW : Hid (∀ W, Ext W1 W → ZL W (.agg #[.bool b0, .slice A0 n0 c0, .bool b1, .slice A1 n1 c1, .bool b2, .slice A2 n2 c2, .bool b3, .slice A3 n3 c3]) x y s) := fun W hW => HL.out.below (bt HB0.out (bt HB1.out hW))
  refine wp_region_adv 27 [⟨24, 9, TQ, #[.bool false, .slice none 0 0, .bool false, .slice none 0 0]⟩, ⟨25, 10, TQ, #[.bool false, .slice none 0 0, .bool false, .slice none 0 0]⟩, ⟨26, 11, TQ, #[.bool false, .slice none 0 0, .bool false, .slice none 0 0]⟩] [(0, true, some 45, none), (1, true, some 46, none), (2, true, some 47, none), (3, true, some 48, none), (4, true, some 49, none), (5, true, some 50, none), (6, true, some 51, none), (8, true, some 53, none), (9, true, some 54, none), (10, true, some 55, none), (11, true, some 56, none), (12, true, some 57, none), (13, true, some 58, none), (14, true, some 59, none), (16, true, some 61, none), (17, true, some 62, none), (18, true, some 63, none), (19, true, some 64, none), (20, true, some 65, none), (21, true, some 66, none), (22, true, some 67, none), (7, false, some 52, none), (15, false, some 60, none), (23, false, some 68, none)] (by kernel_rfl) (by kernel_rfl) (by kernel_rfl) (by intro it hit; (repeat (rcases List.mem_cons.1 hit with rfl | hit; (focus (intro o ho ev w; injection ho with ho; subst ho; kernel_rfl)))); cases hit) (fun _ _ _ _ _ => ⟨fun h => h, fun h => h⟩) hst ?_
  repeat (first | (refine wpSeq_pure (v := ?_) rfl ?_ ?_; rotate_left 1; (focus (intro wq_ hSq_; (try dsimp only at hSq_); go_simp; (try with_reducible rfl); done)); (try simp only [Act.put, List.setIfInBounds_toArray, List.set_cons_zero, List.set_cons_succ])) | (refine wpSeq_pureG (v := ?_) rfl rfl ?_ ?_; rotate_left 1; (focus (intro wq_ hSq_; (try dsimp only at hSq_); go_simp; (try with_reducible rfl); done)); (try simp only [Act.put, List.setIfInBounds_toArray, List.set_cons_zero, List.set_cons_succ])) | (refine wpSeq_off rfl rfl ?_; (try simp only [Act.put, List.setIfInBounds_toArray, List.set_cons_zero, List.set_cons_succ])) | (refine wpSeq_offU rfl ?_; (try simp only [Act.put, List.setIfInBounds_toArray, List.set_cons_zero, List.set_cons_succ])))
  first | refine wpSeq_call rfl (fun u1 g1' s1 K hK => ?_) | refine wpSeq_callG rfl rfl (fun u1 g1' s1 K hK => ?_)
  go_simp
  refine (zerror_any _ x y s ti yi u1 (HLW.out _ s1) (by omega) RI.out.1 RI.out.2).mono ?_
  rintro e y1 ⟨z1, rfl, hz1, b1'⟩
  have x1 := hz1.zx
  obtain ⟨d1, B1, p1, r1, d1', B1', p1', r1', rfl⟩ := x1.form
  (try go_wp2_with fail)
  refine hK.out _ _ b1' ?_
  clear hK K
  (try simp only [Act.put, List.setIfInBounds_toArray, List.set_cons_zero, List.set_cons_succ])
  repeat (first | (refine wpSeq_pure (v := ?_) rfl ?_ ?_; rotate_left 1; (focus (intro wq_ hSq_; (try dsimp only at hSq_); go_simp; (try with_reducible rfl); done)); (try simp only [Act.put, List.setIfInBounds_toArray, List.set_cons_zero, List.set_cons_succ])) | (refine wpSeq_pureG (v := ?_) rfl rfl ?_ ?_; rotate_left 1; (focus (intro wq_ hSq_; (try dsimp only at hSq_); go_simp; (try with_reducible rfl); done)); (try simp only [Act.put, List.setIfInBounds_toArray, List.set_cons_zero, List.set_cons_succ])) | (refine wpSeq_off rfl rfl ?_; (try simp only [Act.put, List.setIfInBounds_toArray, List.set_cons_zero, List.set_cons_succ])) | (refine wpSeq_offU rfl ?_; (try simp only [Act.put, List.setIfInBounds_toArray, List.set_cons_zero, List.set_cons_succ])))
  first | refine wpSeq_call rfl (fun u2 g2' s2 K hK => ?_) | refine wpSeq_callG rfl rfl (fun u2 g2' s2 K hK => ?_)
  go_simp
  refine (zerror_any _ x y s tj yj u2 (HLW.out _ s2) (by omega) RJ.out.1 RJ.out.2).mono ?_
  rintro e y2 ⟨z2, rfl, hz2, b2'⟩
  have x2 := hz2.zx
  obtain ⟨d2, B2, p2, r2, d2', B2', p2', r2', rfl⟩ := x2.form
  (try go_wp2_with fail)
  refine hK.out _ _ b2' ?_
  clear hK K
  (try simp only [Act.put, List.setIfInBounds_toArray, List.set_cons_zero, List.set_cons_succ])
  repeat (first | (refine wpSeq_pure (v := ?_) rfl ?_ ?_; rotate_left 1; (focus (intro wq_ hSq_; (try dsimp only at hSq_); go_simp; (try with_reducible rfl); done)); (try simp only [Act.put, List.setIfInBounds_toArray, List.set_cons_zero, List.set_cons_succ])) | (refine wpSeq_pureG (v := ?_) rfl rfl ?_ ?_; rotate_left 1; (focus (intro wq_ hSq_; (try dsimp only at hSq_); go_simp; (try with_reducible rfl); done)); (try simp only [Act.put, List.setIfInBounds_toArray, List.set_cons_zero, List.set_cons_succ])) | (refine wpSeq_off rfl rfl ?_; (try simp only [Act.put, List.setIfInBounds_toArray, List.set_cons_zero, List.set_cons_succ])) | (refine wpSeq_offU rfl ?_; (try simp only [Act.put, List.setIfInBounds_toArray, List.set_cons_zero, List.set_cons_succ])))
  first | refine wpSeq_call rfl (fun u3 g3' s3 K hK => ?_) | refine wpSeq_callG rfl rfl (fun u3 g3' s3 K hK => ?_)
  go_simp
  refine (zerror_any _ x y s tl yl u3 (HLW.out _ s3) (by omega) RL.out.1 RL.out.2).mono ?_
  rintro e y3 ⟨z3, rfl, hz3, b3'⟩
  have x3 := hz3.zx
  obtain ⟨d3, B3, p3, r3, d3', B3', p3', r3', rfl⟩ := x3.form
  (try go_wp2_with fail)
  refine hK.out _ _ b3' ?_
  clear hK K
  (try simp only [Act.put, List.setIfInBounds_toArray, List.set_cons_zero, List.set_cons_succ])
  repeat (first | (refine wpSeq_pure (v := ?_) rfl ?_ ?_; rotate_left 1; (focus (intro wq_ hSq_; (try dsimp only at hSq_); go_simp; (try with_reducible rfl); done)); (try simp only [Act.put, List.setIfInBounds_toArray, List.set_cons_zero, List.set_cons_succ])) | (refine wpSeq_pureG (v := ?_) rfl rfl ?_ ?_; rotate_left 1; (focus (intro wq_ hSq_; (try dsimp only at hSq_); go_simp; (try with_reducible rfl); done)); (try simp only [Act.put, List.setIfInBounds_toArray, List.set_cons_zero, List.set_cons_succ])) | (refine wpSeq_off rfl rfl ?_; (try simp only [Act.put, List.setIfInBounds_toArray, List.set_cons_zero, List.set_cons_succ])) | (refine wpSeq_offU rfl ?_; (try simp only [Act.put, List.setIfInBounds_toArray, List.set_cons_zero, List.set_cons_succ])))
  intro wz gz sz_
  (try simp only [endJ, List.drop_succ_cons, List.drop_zero])
  intro R1 hr1 hu1 hB1 R2 hr2 hu2 hB2 R3 hr3 hu3 hB3
  (try simp only [endJ, Act.put, ptr, List.setIfInBounds_toArray, List.set_cons_zero, List.set_cons_succ])
  have NE := Lib.hid (show R1 ≠ R2 ∧ R1 ≠ R3 ∧ R2 ≠ R3 by simp at hu2 hu3; omega)
  have k1 := zcells hB1
  have kf1 := hB1.free
  have k2 := zcells hB2
  have kf2 := hB2.free
  have k3 := zcells hB3
  have kf3 := hB3.free
  have X1 := Lib.hid (((((x1.below g2').below b2').below g3').below b3').below gz)
  have X2 := Lib.hid (((x2.below g3').below b3').below gz)
  have X3 := Lib.hid (x3.below gz)
  have SZ := Lib.hid sz_
  have HBB := Lib.hid (And.intro hB1 (And.intro hB2 hB3))
  have HRR := Lib.hid (show W1.heap.size ≤ R1 ∧ W1.heap.size ≤ R2 ∧ W1.heap.size ≤ R3 from ⟨hr1, hr2, hr3⟩)
  clear x1 x2 x3 hz1 hz2 hz3 b1' b2' b3' g1' g2' g3' s1 s2 s3 k5 ki kr hst hB1 hB2 hB3 gz sz_ hu1 hu2 hu3 hr1 hr2 hr3
  obtain ⟨ne1, ne2, ne3⟩ := NE.out
  have ne1' := ne1.symm
  have ne2' := ne2.symm
  have ne3' := ne3.symm
  go_upto_region 4 with fail
  refine wp_world (fun W => Put3 wz W R1 R2 R3 #[.bool d1, .slice B1 p1 r1, .bool d1', .slice B1' p1' r1'] #[.bool d2, .slice B2 p2 r2, .bool d2', .slice B2' p2' r2'] #[.bool d3, .slice B3 p3 r3, .bool d3', .slice B3' p3' r3']) (by exact put3 HBB.out.1 HBB.out.2.1 HBB.out.2.2 NE.out.1 NE.out.2.1 NE.out.2.2 _ _ _ _ _ _ _ _ _ _ _ _) ?_
  rintro W4 P4
  clear k1 kf1 k2 kf2 k3 kf3 ne1 ne2 ne3 ne1' ne2' ne3'
  have X1 := Lib.hid (P4.zx _ _ _ X1.out)
  have X2 := Lib.hid (P4.zx _ _ _ X2.out)
  have X3 := Lib.hid (P4.zx _ _ _ X3.out)
  have F1 := Lib.hid P4.fa
  have F2 := Lib.hid P4.fb
  have F3 := Lib.hid P4.fc
  have HB4 := Lib.hid (P4.below W1 SZ.out HRR.out.1 HRR.out.2.1 HRR.out.2.2)
  have HBT := Lib.hid (bt HB0.out (bt HB1.out HB4.out))
  have k1 := cells4 F1.out
  have k3 := cells4 F3.out
  have k6 := cells4 ((X6.out.below HB1.out).below HB4.out)
  have hst : Ext W4 W4.drew := Ext.drew _
  clear P4 SZ HRR HBB NE
  obtain ⟨ei, hei⟩ : ∃ r, erQ x y ti yi = r := ⟨_, rfl⟩
  obtain ⟨ej, hej⟩ : ∃ r, erQ x y tj yj = r := ⟨_, rfl⟩
  obtain ⟨el, hel⟩ : ∃ r, erQ x y tl yl = r := ⟨_, rfl⟩
  rw [hei, hej, hel] at HAL
  rw [hei] at X1
  rw [hej] at X2
  rw [hel] at X3
  clear hei hej hel
  refine wp_region_adv 8 [] [(0, true, some 69, none), (2, true, some 71, none), (1, false, some 70, none), (3, false, some 72, none), (4, true, some 73, none), (5, true, some 74, none), (6, true, some 75, some (74, false)), (7, true, some 76, some (74, false))] (by kernel_rfl) (by kernel_rfl) (by kernel_rfl) (by intro it hit; (repeat (rcases List.mem_cons.1 hit with rfl | hit; (focus (intro o ho ev w; injection ho with ho; subst ho; kernel_rfl)))); cases hit) (fun _ _ _ _ _ => ⟨fun h => h, fun h => h⟩) hst ?_
  repeat (first | (refine wpSeq_pure (v := ?_) rfl ?_ ?_; rotate_left 1; (focus (intro wq_ hSq_; (try dsimp only at hSq_); go_simp; (try with_reducible rfl); done)); (try simp only [Act.put, List.setIfInBounds_toArray, List.set_cons_zero, List.set_cons_succ])) | (refine wpSeq_pureG (v := ?_) rfl rfl ?_ ?_; rotate_left 1; (focus (intro wq_ hSq_; (try dsimp only at hSq_); go_simp; (try with_reducible rfl); done)); (try simp only [Act.put, List.setIfInBounds_toArray, List.set_cons_zero, List.set_cons_succ])) | (refine wpSeq_off rfl rfl ?_; (try simp only [Act.put, List.setIfInBounds_toArray, List.set_cons_zero, List.set_cons_succ])) | (refine wpSeq_offU rfl ?_; (try simp only [Act.put, List.setIfInBounds_toArray, List.set_cons_zero, List.set_cons_succ])))
  first | refine wpSeq_call rfl (fun u1 g1' s1 K hK => ?_) | refine wpSeq_callG rfl rfl (fun u1 g1' s1 K hK => ?_)
  go_simp
  refine (xabs_any (X1.out.below s1)).mono ?_
  rintro e y1 ⟨z1, rfl, x1, b1'⟩
  obtain ⟨d4, B4, p4, r4, d4', B4', p4', r4', rfl⟩ := x1.form
  (try go_wp2_with fail)
  refine hK.out _ _ b1' ?_
  clear hK K
  (try simp only [Act.put, List.setIfInBounds_toArray, List.set_cons_zero, List.set_cons_succ])
  repeat (first | (refine wpSeq_pure (v := ?_) rfl ?_ ?_; rotate_left 1; (focus (intro wq_ hSq_; (try dsimp only at hSq_); go_simp; (try with_reducible rfl); done)); (try simp only [Act.put, List.setIfInBounds_toArray, List.set_cons_zero, List.set_cons_succ])) | (refine wpSeq_pureG (v := ?_) rfl rfl ?_ ?_; rotate_left 1; (focus (intro wq_ hSq_; (try dsimp only at hSq_); go_simp; (try with_reducible rfl); done)); (try simp only [Act.put, List.setIfInBounds_toArray, List.set_cons_zero, List.set_cons_succ])) | (refine wpSeq_off rfl rfl ?_; (try simp only [Act.put, List.setIfInBounds_toArray, List.set_cons_zero, List.set_cons_succ])) | (refine wpSeq_offU rfl ?_; (try simp only [Act.put, List.setIfInBounds_toArray, List.set_cons_zero, List.set_cons_succ])))
  by_cases q1 : rab ei = z
  rotate_left
  · have HQ1 := Lib.hid q1
    obtain ⟨cv, hcv⟩ : ∃ r, cmpR (rab ei) z = r := ⟨_, rfl⟩
    have hne : cv ≠ 0 := by rw [← hcv]; exact cmpR_ne q1
    have n1' : (cv == 0) = false := by simpa using hne
    have n2' : (cv != 0) = true := by simpa using hne
    have HCV := Lib.hid hcv
    clear q1 hcv hne
    first | refine wpSeq_call rfl (fun u2 g2' s2 K hK => ?_) | refine wpSeq_callG rfl rfl (fun u2 g2' s2 K hK => ?_)
    go_simp
    refine (xcmp_any (x1.below g2') (HQ.out.below (bt HBT.out s2)) (by omega)).mono ?_
    rintro e y2 ⟨z2, rfl, hz2, b2'⟩
    rw [HCV.out] at hz2
    subst hz2
    (try go_wp2_with fail)
    refine hK.out _ _ b2' ?_
    clear hK K
    (try simp only [Act.put, List.setIfInBounds_toArray, List.set_cons_zero, List.set_cons_succ])
    repeat (first | (refine wpSeq_pure (v := ?_) rfl ?_ ?_; rotate_left 1; (focus (intro wq_ hSq_; (try dsimp only at hSq_); go_simp; (try with_reducible rfl); done)); (try simp only [Act.put, List.setIfInBounds_toArray, List.set_cons_zero, List.set_cons_succ])) | (refine wpSeq_pureG (v := ?_) rfl rfl ?_ ?_; rotate_left 1; (focus (intro wq_ hSq_; (try dsimp only at hSq_); go_simp; (try with_reducible rfl); done)); (try simp only [Act.put, List.setIfInBounds_toArray, List.set_cons_zero, List.set_cons_succ])) | (refine wpSeq_off rfl rfl ?_; (try simp only [Act.put, List.setIfInBounds_toArray, List.set_cons_zero, List.set_cons_succ])) | (refine wpSeq_offU rfl ?_; (try simp only [Act.put, List.setIfInBounds_toArray, List.set_cons_zero, List.set_cons_succ])))
    intro wz gz sz_
    (try simp only [endJ, List.drop_succ_cons, List.drop_zero])
    have HBE := Lib.hid (bt HBT.out sz_)
    have HF := Lib.hid (altB_f (rs := rs) (x := x) (y := y) (z := z) (i := I) (j := J) (k := L) (by rw [HAL.out]; exact fun h => HQ1.out h.1))
    clear x1 b1' b2' g1' g2' s1 s2 hst gz sz_ k1 k3 k6
    go_wp2
    go_returns
    exact ⟨_, rfl, by rw [HF.out]; rfl, HBE.out⟩
  have HC1 := Lib.hid (cmpR_eq.2 q1)
  have HQ1 := Lib.hid q1
  clear q1
  first | refine wpSeq_call rfl (fun u2 g2' s2 K hK => ?_) | refine wpSeq_callG rfl rfl (fun u2 g2' s2 K hK => ?_)
  go_simp
  refine (xcmp_any (x1.below g2') (HQ.out.below (bt HBT.out s2)) (by omega)).mono ?_
  rintro e y2 ⟨z2, rfl, hz2, b2'⟩
  rw [HC1.out] at hz2
  subst hz2
  (try go_wp2_with fail)
  refine hK.out _ _ b2' ?_
  clear hK K
  (try simp only [Act.put, List.setIfInBounds_toArray, List.set_cons_zero, List.set_cons_succ])
  repeat (first | (refine wpSeq_pure (v := ?_) rfl ?_ ?_; rotate_left 1; (focus (intro wq_ hSq_; (try dsimp only at hSq_); go_simp; (try with_reducible rfl); done)); (try simp only [Act.put, List.setIfInBounds_toArray, List.set_cons_zero, List.set_cons_succ])) | (refine wpSeq_pureG (v := ?_) rfl rfl ?_ ?_; rotate_left 1; (focus (intro wq_ hSq_; (try dsimp only at hSq_); go_simp; (try with_reducible rfl); done)); (try simp only [Act.put, List.setIfInBounds_toArray, List.set_cons_zero, List.set_cons_succ])) | (refine wpSeq_off rfl rfl ?_; (try simp only [Act.put, List.setIfInBounds_toArray, List.set_cons_zero, List.set_cons_succ])) | (refine wpSeq_offU rfl ?_; (try simp only [Act.put, List.setIfInBounds_toArray, List.set_cons_zero, List.set_cons_succ])))
  intro wz gz sz_
  (try simp only [endJ, List.drop_succ_cons, List.drop_zero])
  have SZ := Lib.hid sz_
  clear x1 b1' b2' g1' g2' s1 s2 hst gz sz_ k1 k3 k6
  go_wp2_with fail
  refine (xcmp_any (X1.out.below SZ.out) (X3.out.below SZ.out) (by omega)).mono ?_
  rintro e y3 ⟨z3, rfl, hz3, b3'⟩
  by_cases q2 : ei = el
  rotate_left
  · obtain ⟨cv, hcv⟩ : ∃ r, cmpR ei el = r := ⟨_, rfl⟩
    have hne : cv ≠ 0 := by rw [← hcv]; exact cmpR_ne q2
    have n1' : (cv == 0) = false := by simpa using hne
    have n2' : (cv != 0) = true := by simpa using hne
    have HQ2 := Lib.hid q2
    rw [hcv] at hz3
    subst hz3
    have HBE := Lib.hid (bt HBT.out (bt SZ.out b3'))
    have HF := Lib.hid (altB_f (rs := rs) (x := x) (y := y) (z := z) (i := I) (j := J) (k := L) (by rw [HAL.out]; exact fun h => HQ2.out h.2.1))
    clear q2 hcv hne b3'
    go_wp2
    go_returns
    exact ⟨_, rfl, by rw [HF.out]; rfl, HBE.out⟩
  rw [cmpR_eq.2 q2] at hz3
  subst hz3
  have HQ2 := Lib.hid q2
  have G1 := Lib.hid (show Ext W4 y3 from bt SZ.out b3')
  have k1 := zcells (F1.out.below G1.out)
  have k2 := zcells (F2.out.below G1.out)
  clear q2 b3' SZ
  go_wp2_with fail
  refine (xadd_any (X1.out.below G1.out) (X2.out.below G1.out) (by omega)).mono ?_
  rintro e y4 ⟨z4, rfl, x4, b4'⟩
  go_wp2_with fail
  refine (xwh_any 0 y4 (by omega) (by omega)).mono ?_
  rintro e y5 ⟨z5, rfl, x5, b5'⟩
  go_wp2_with fail
  refine (xcmp_any (x4.below b5') x5 (by omega)).mono ?_
  rintro e y6 ⟨z6, rfl, hz6, b6'⟩
  have G2 := Lib.hid (show Ext W4 y6 from bt G1.out (bt b4' (bt b5' b6')))
  have k1 := zcells (F1.out.below G2.out)
  have k2 := zcells (F2.out.below G2.out)
  clear x4 x5 b4' b5' b6'
  by_cases q3 : ei + ej = 0
  rotate_left
  · obtain ⟨cv, hcv⟩ : ∃ r, cmpR (ei + ej) ((0 : Int) : Rat) = r := ⟨_, rfl⟩
    have hne : cv ≠ 0 := by rw [← hcv]; exact cmpR_ne q3
    have n1' : (cv == 0) = false := by simpa using hne
    have n2' : (cv != 0) = true := by simpa using hne
    have HQ3 := Lib.hid q3
    rw [hcv] at hz6
    subst hz6
    have HBE := Lib.hid (bt HBT.out G2.out)
    have HF := Lib.hid (altB_f (rs := rs) (x := x) (y := y) (z := z) (i := I) (j := J) (k := L) (by rw [HAL.out]; exact fun h => HQ3.out h.2.2.1))
    clear q3 hcv hne
    go_wp2
    go_returns
    exact ⟨_, rfl, by rw [HF.out]; rfl, HBE.out⟩
  have q3' : cmpR (ei + ej) ((0 : Int) : Rat) = 0 := cmpR_eq.2 q3
  rw [q3'] at hz6
  subst hz6
  have HQ3 := Lib.hid q3
  clear q3 q3'
  go_wp2_with fail
  refine (xcmp_any (X1.out.below G2.out) (X2.out.below G2.out) (by omega)).mono ?_
  rintro e y7 ⟨z7, rfl, hz7, b7'⟩
  have HBE := Lib.hid (bt HBT.out (bt G2.out b7'))
  clear b7'
  by_cases q4 : ei = ej
  · rw [cmpR_eq.2 q4] at hz7
    subst hz7
    have HF := Lib.hid (altB_f (rs := rs) (x := x) (y := y) (z := z) (i := I) (j := J) (k := L) (by rw [HAL.out]; exact fun h => h.2.2.2 q4))
    clear q4
    go_wp2
    go_returns
    exact ⟨_, rfl, by rw [HF.out]; rfl, HBE.out⟩
  · obtain ⟨cv, hcv⟩ : ∃ r, cmpR ei ej = r := ⟨_, rfl⟩
    have hne : cv ≠ 0 := by rw [← hcv]; exact cmpR_ne q4
    have n1' : (cv == 0) = false := by simpa using hne
    have n2' : (cv != 0) = true := by simpa using hne
    rw [hcv] at hz7
    subst hz7
    have HF := Lib.hid (altB_t (rs := rs) (x := x) (y := y) (z := z) (i := I) (j := J) (k := L) (by rw [HAL.out]; exact ⟨HQ1.out, HQ2.out, HQ3.out, q4⟩))
    clear q4 hcv hne
    go_wp2
    go_returns
    exact ⟨_, rfl, by rw [HF.out]; rfl, HBE.out⟩
end Go.Proofs.Tb
