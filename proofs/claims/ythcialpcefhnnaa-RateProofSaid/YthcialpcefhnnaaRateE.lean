/- Least. -/
import Derived.Test.YthcialpcefhnnaaRate1
import Derived.Deep.DeepCutAuto
set_option linter.unusedVariables false
set_option linter.unusedSimpArgs false
namespace Go.Proofs.Tb
open Go.RowKit
attribute [local go_sem] cell_set_same

/-- The outer readings of the best three. -/
def fiN (a : Nat) (off : Int) : Nat := if off = 0 then 0 else a
def laN (n c : Nat) (off : Int) : Nat := if off = 0 then n - 1 else c
/-- The shift of Least's line, as it is computed: p/q is the slope. -/
def shN (y t p q off run : Int) : Int := (y * (q * 1) + -(p * t) * 1) * (2 * run) + off * (1 * (q * 1))
def shD (q run : Int) : Int := 1 * (q * 1) * (2 * run)
/-- What Least returns of valid readings. -/
def LeastV (rs : List Rdg) (v : Value) : Prop := ∃ (a b c : Nat) (off run p q r s : Int), Gr rs a b c off run ∧
  p = ofs rs (laN rs.length c off) - ofs rs (fiN a off) ∧ q = tm rs (laN rs.length c off) - tm rs (fiN a off) ∧
  r = shN (ofs rs (fiN a off)) (tm rs (fiN a off)) p q off run ∧ s = shD q run ∧
  (okFrac p q ∧ okFrac r s ∧ okFrac (off.natAbs : Int) (2 * run) → v = .tuple #[.agg #[.int .i64 (lown p q), .int .i64 (lowd p q), .int .i64 (lown r s), .int .i64 (lowd r s)], .agg #[.int .i64 (lown (off.natAbs : Int) (2 * run)), .int .i64 (lowd (off.natAbs : Int) (2 * run))], .int .i64 0]) ∧
  (¬ (okFrac p q ∧ okFrac r s ∧ okFrac (off.natAbs : Int) (2 * run)) → v = .tuple #[.agg #[.int .i64 0, .int .i64 0, .int .i64 0, .int .i64 0], .agg #[.int .i64 0, .int .i64 0], .int .i64 5])
def LeastR (rs : List Rdg) (v : Value) (_ : World) : Prop :=
  (¬ Vld rs → v = .tuple #[.agg #[.int .i64 0, .int .i64 0, .int .i64 0, .int .i64 0], .agg #[.int .i64 0, .int .i64 0], .int .i64 1]) ∧ (Vld rs → LeastV rs v)

theorem WQ.ext {a w : World} {v : Value} {p q : Int} (h : WQ a v p q) (he : Ext a w) : WQ w v p q := h.below he
theorem Ext.le {a w : World} (h : Ext a w) : a.heap.size ≤ w.heap.size := Below.size h
theorem LineR.ex (p q r s : Int) : ∃ l1 l2 l3 l4 ee : Int, (∀ v w', LineR p q r s v w' → v = .tuple #[.agg #[.int .i64 l1, .int .i64 l2, .int .i64 l3, .int .i64 l4], .int .i64 ee]) ∧
    ((okFrac p q ∧ okFrac r s ∧ l1 = lown p q ∧ l2 = lowd p q ∧ l3 = lown r s ∧ l4 = lowd r s ∧ ee = 0) ∨ (¬ (okFrac p q ∧ okFrac r s) ∧ ee = 5)) := by
  by_cases h : okFrac p q ∧ okFrac r s
  · exact ⟨_, _, _, _, _, fun v w' hl => hl.1 h, Or.inl ⟨h.1, h.2, rfl, rfl, rfl, rfl, rfl⟩⟩
  · exact ⟨_, _, _, _, _, fun v w' hl => hl.2 h, Or.inr ⟨h, rfl⟩⟩
theorem FracR.ex (p q : Int) : ∃ f1 f2 ff : Int, (∀ v w', FracR p q v w' → v = .tuple #[.agg #[.int .i64 f1, .int .i64 f2], .int .i64 ff]) ∧
    ((okFrac p q ∧ f1 = lown p q ∧ f2 = lowd p q ∧ ff = 0) ∨ (¬ okFrac p q ∧ ff = 5)) := by
  by_cases h : okFrac p q
  · exact ⟨_, _, _, fun v w' hl => hl.1 h, Or.inl ⟨h, rfl, rfl, rfl⟩⟩
  · exact ⟨_, _, _, fun v w' hl => hl.2 h, Or.inr ⟨h, rfl⟩⟩
theorem rn_pos (n d : Int) (h : 0 < d) : rn n d = n := by unfold rn; rw [if_neg (by omega)]
theorem rd_of_pos (d : Int) (h : 0 < d) : rd d = d := by unfold rd; omega
theorem szs (y t p q off run : Int) (h1 : sz y ≤ 2) (h2 : sz t ≤ 2) (h3 : sz p ≤ 2) (h4 : sz q ≤ 2) (h5 : sz off ≤ 2) (h6 : sz (2 * run) ≤ 2) :
    sz p + sz q + sz t + sz 1 ≤ 100000000000 ∧ sz y + sz 1 + sz (p * t) + sz (q * 1) ≤ 100000000000 ∧
    sz (y * (q * 1) + -(p * t) * 1) + sz (1 * (q * 1)) + sz off + sz (2 * run) ≤ 100000000000 ∧
    sz p + sz q + sz (shN y t p q off run) + sz (shD q run) ≤ 100000000000 := by
  have e1 : sz 1 ≤ 2 := sz_small 1 (by omega) (by omega)
  have e2 := sz_mul p t
  have e3 := sz_mul q 1
  have e4 := sz_mul y (q * 1)
  have e5 := sz_mul (-(p * t)) 1
  rw [sz_neg] at e5
  have e6 := sz_add (y * (q * 1)) (-(p * t) * 1)
  have e7 := sz_mul 1 (q * 1)
  have e8 := sz_mul (y * (q * 1) + -(p * t) * 1) (2 * run)
  have e9 := sz_mul off (1 * (q * 1))
  have e10 := sz_add ((y * (q * 1) + -(p * t) * 1) * (2 * run)) (off * (1 * (q * 1)))
  have e11 := sz_mul (1 * (q * 1)) (2 * run)
  unfold shN shD
  omega

set_option maxHeartbeats 3200000 in
theorem rleast_any (A : Option Addr) (n c : Nat) (rs : List Rdg) (w : World) (h : Rd w A n c rs) :
    Calls Try.prog 5 #[.slice A n c] w (Ret (LeastR rs) w) := by
  have hn := h.le
  have hc := h.cap
  have hl := h.len
  have H := Lib.hid h
  have HL := Lib.hid hl
  clear h hl
  go_enter Try.func5, Try.ntmps5
  go_wp2_with fail
  have hbx : Below w.heap.size w ((w.alloc (.cells #[.int .i64 0, .int .i64 0, .int .i64 0, .int .i64 0] TAL)).alloc (.cells #[.int .i64 0, .int .i64 0] TF)) := by go_grown
  have bl0 : Blk ((w.alloc (.cells #[.int .i64 0, .int .i64 0, .int .i64 0, .int .i64 0] TAL)).alloc (.cells #[.int .i64 0, .int .i64 0] TF)) w.heap.size TAL #[.int .i64 0, .int .i64 0, .int .i64 0, .int .i64 0] := (Blk.new_ _ _ rfl).alloc _
  have bl1 : Blk ((w.alloc (.cells #[.int .i64 0, .int .i64 0, .int .i64 0, .int .i64 0] TAL)).alloc (.cells #[.int .i64 0, .int .i64 0] TF)) (w.heap.size + 1) TF #[.int .i64 0, .int .i64 0] := Blk.new_ _ _ (by simp)
  refine (rvalid_any _ _ _ rs _ (H.out.below hbx)).mono ?_
  rintro e w1 ⟨v1, rfl, rfl, hb1⟩
  by_cases hv : Vld rs
  · rw [vld_true hv]
    have HV := Lib.hid hv
    have B0 := Lib.hid (bl0.below hb1)
    have B1 := Lib.hid (bl1.below hb1)
    have HW1 := Lib.hid (bt hbx hb1)
    clear hv bl0 bl1 hbx hb1
    go_wp2_with fail
    refine (rgreatest_any _ _ _ rs _ (H.out.below HW1.out) HV.out).mono ?_
    rintro e w2 ⟨v2, rfl, ⟨a, b, c', off, run, rfl, hg⟩, hb2⟩
    have HG := Lib.hid hg
    have C0 := Lib.hid (B0.out.below hb2)
    have C1 := Lib.hid (B1.out.below hb2)
    have HW2 := Lib.hid (bt HW1.out hb2)
    clear hg hb2 B0 B1 HW1
    have hac : a < n ∧ c' < n := by
      have h2 := HV.out.1
      rw [HL.out] at h2
      have h3 := HG.out
      unfold Gr GInv at h3
      rw [HL.out] at h3
      rcases h3 with ⟨_, _, h4, _, h5, _⟩ | ⟨h4, h5, h6, _⟩ <;> omega
    obtain ⟨han, hcn⟩ := hac
    go_wp2
    refine wp_world (fun W0 => Blk W0 w.heap.size TAL #[.int .i64 0, .int .i64 0, .int .i64 0, .int .i64 0] ∧ Blk W0 (w.heap.size + 1) TF #[.int .i64 0, .int .i64 0] ∧ Blk W0 w2.heap.size T3 #[.int .i64 a, .int .i64 b, .int .i64 c'] ∧ Blk W0 (w2.heap.size + 1) TBD #[.int .i64 off, .int .i64 run] ∧ Below w.heap.size w W0 ∧ W0.heap.size = w2.heap.size + 2) (by exact ⟨(C0.out.alloc _).alloc _, (C1.out.alloc _).alloc _, (Blk.new_ _ _ rfl).alloc _, Blk.new_ _ _ (by simp), (HW2.out.alloc HW2.out.size _).alloc (by have := HW2.out.size; simp; omega) _, by simp⟩) ?_
    rintro W0 ⟨b0, b1, b2, b3, hbw, hsz⟩
    obtain ⟨t, o, rfl, hcell⟩ := (H.out.below hbw).at_ (by omega)
    have k2 := b2.cells
    have k3 := b3.cells
    simp only [cellsAre, Nat.zero_add, Nat.reduceAdd, and_true] at k2 k3
    have ka := hcell a han
    have kc := hcell c' hcn
    obtain ⟨ta, eta⟩ : ∃ x, (rs.getD a (0, 0)).1 = x := ⟨_, rfl⟩
    obtain ⟨ya, eya⟩ : ∃ x, (rs.getD a (0, 0)).2 = x := ⟨_, rfl⟩
    obtain ⟨tc, etc⟩ : ∃ x, (rs.getD c' (0, 0)).1 = x := ⟨_, rfl⟩
    obtain ⟨yc, eyc⟩ : ∃ x, (rs.getD c' (0, 0)).2 = x := ⟨_, rfl⟩
    rw [eta, eya] at ka
    rw [etc, eyc] at kc
    have HA := Lib.hid (show tm rs a = ta ∧ ofs rs a = ya from ⟨eta, eya⟩)
    have HC' := Lib.hid (show tm rs c' = tc ∧ ofs rs c' = yc from ⟨etc, eyc⟩)
    clear eta eya etc eyc
    have ltt : t < W0.heap.size := World.block_lt_of_cell? W0 _ ka.1
    have e1 : Ext W0 W0 := Ext.refl _
    have q1 := fun (o1 : Obj) => And.intro ((e1.alloc o1).cell ka.1) (And.intro ((e1.alloc o1).cell ka.2) (And.intro ((e1.alloc o1).cell kc.1) ((e1.alloc o1).cell kc.2)))
    have q2 := fun (o1 o2 : Obj) => And.intro (((e1.alloc o1).alloc o2).cell ka.1) (And.intro (((e1.alloc o1).alloc o2).cell ka.2) (And.intro (((e1.alloc o1).alloc o2).cell kc.1) (((e1.alloc o1).alloc o2).cell kc.2)))
    have HC := Lib.hid hcell
    clear e1
    have D0 := Lib.hid b0
    have D1 := Lib.hid b1
    have D2 := Lib.hid b2
    have D3 := Lib.hid b3
    have HW := Lib.hid hbw
    clear b0 b1 b2 b3 hbw hcell C0 C1 HW2
    go_upto_region 4 with fail
    go_cut [7, 8] (fun s7 s8 wx => ∃ R7 R8 : Nat, s7 = .pointer (some ⟨R7, 0, none⟩) ∧ s8 = .pointer (some ⟨R8, 0, none⟩) ∧ R7 ≠ R8 ∧ W0.heap.size ≤ R7 ∧ W0.heap.size ≤ R8 ∧ Blk wx R7 TRD #[.int .i64 ta, .int .i64 ya] ∧ Blk wx R8 TRD #[.int .i64 tc, .int .i64 yc] ∧ Below W0.heap.size W0 wx)
    case first =>
      go_region
      all_goals (go_wp2_with fail; go_meet; refine ⟨_, _, rfl, rfl, by omega, by omega, by omega, ?_, ?_, by go_grown⟩)
      all_goals (first | exact Blk.drew ((Blk.new_ _ _ hsz).alloc _) | exact Blk.drew (Blk.new_ _ _ (by simp [hsz])))
    case rest =>
      obtain ⟨R7, R8, rfl, rfl, hne, h7, h8, hb7, hb8, hbx⟩ := hcut
      clear q1 q2 k2 k3
      have hoff : Ext W0 W0 := Ext.refl _
      have hof : 0 < n := by omega
      have E0 := Lib.hid (show Ext W0 wc from hbx)
      have k3 := (D3.out.below hbx).cells
      simp only [cellsAre, Nat.zero_add, Nat.reduceAdd, and_true] at k3
      obtain ⟨t0, et0⟩ : ∃ x, (rs.getD 0 (0, 0)).1 = x := ⟨_, rfl⟩
      obtain ⟨y0, ey0⟩ : ∃ x, (rs.getD 0 (0, 0)).2 = x := ⟨_, rfl⟩
      obtain ⟨tl, etl⟩ : ∃ x, (rs.getD (n - 1) (0, 0)).1 = x := ⟨_, rfl⟩
      obtain ⟨yl, eyl⟩ : ∃ x, (rs.getD (n - 1) (0, 0)).2 = x := ⟨_, rfl⟩
      have kk0 := HC.out 0 hof
      have kkl := HC.out (n - 1) (by omega)
      rw [et0, ey0] at kk0
      rw [etl, eyl] at kkl
      rw [Nat.zero_mul, Nat.add_zero] at kk0
      have m1 := E0.out.cell kk0.1
      have m2 := E0.out.cell kk0.2
      have m3 := E0.out.cell kkl.1
      have m4 := E0.out.cell kkl.2
      have H0 := Lib.hid (show tm rs 0 = t0 ∧ ofs rs 0 = y0 from ⟨et0, ey0⟩)
      have HL' := Lib.hid (show tm rs (n - 1) = tl ∧ ofs rs (n - 1) = yl from ⟨etl, eyl⟩)
      have HB7 := Lib.hid hb7
      have HB8 := Lib.hid hb8
      clear et0 ey0 etl eyl kk0 kkl hb7 hb8 hoff hbx ka kc
      have k7 := HB7.out.cells
      have k8 := HB8.out.cells
      have g7 := HB7.out.free
      have g8 := HB8.out.free
      simp only [cellsAre, Nat.zero_add, Nat.reduceAdd, and_true] at k7 k8
      have hsz0 := D1.out.lt
      have z1 : t ≠ R7 := by omega
      have z2 : R7 ≠ t := by omega
      have z3 : t ≠ R8 := by omega
      have z4 : R8 ≠ t := by omega
      have z5 : (1 : Int) ≤ (n : Int) := by omega
      have z6 : (n : Int) ≤ 4611686018427387904 := by have := HV.out.2.1; have := HL.out; omega
      clear ltt
      go_upto_if 36 with fail
      go_cut [] (fun wx => Blk wx w.heap.size TAL #[.int .i64 0, .int .i64 0, .int .i64 0, .int .i64 0] ∧ Blk wx (w.heap.size + 1) TF #[.int .i64 0, .int .i64 0] ∧ Blk wx (w2.heap.size + 1) TBD #[.int .i64 off, .int .i64 run] ∧ Blk wx R7 TRD #[.int .i64 (tm rs (fiN a off)), .int .i64 (ofs rs (fiN a off))] ∧ Blk wx R8 TRD #[.int .i64 (tm rs (laN n c' off)), .int .i64 (ofs rs (laN n c' off))] ∧ Below w.heap.size w wx)
      case first =>
        have hn7 : w.heap.size + 1 + 1 ≤ R7 := by omega
        have hn8 : w.heap.size + 1 + 1 ≤ R8 := by omega
        have q2 : ((n : Int) - 1).toNat = n - 1 := by omega
        have q3 : IntKind.i64.wrap ((n : Int) - 1) = (n : Int) - 1 := IntWalk.i64_in _ (by omega)
        have q0 : (0 : Int) ≤ (n : Int) - 1 := by omega
        have q7 : (n : Int) - 1 < (n : Int) := by omega
        have q8 : (0 : Int) < (n : Int) := by omega
        have q9 : R8 ≠ R7 := fun h => hne h.symm
        by_cases ho : off = 0
        · subst ho
          have d : ((0 : Int) == 0) = true := rfl
          go_wp2_with fail
          go_region
          go_wp2_with fail
          go_meet
          refine ⟨?_, ?_, ?_, ?_, ?_, ?_⟩
          · exact Blk.drew (((((D0.out.below E0.out).far (by simp; omega) _).far (by simp; omega) _).far (by simp; omega) _).far (by simp; omega) _)
          · exact Blk.drew (((((D1.out.below E0.out).far (by simp; omega) _).far (by simp; omega) _).far (by simp; omega) _).far (by simp; omega) _)
          · exact Blk.drew (((((D3.out.below E0.out).far (by simp; omega) _).far (by simp; omega) _).far (by simp; omega) _).far (by simp; omega) _)
          · rw [show fiN a 0 = 0 from if_pos rfl, H0.out.1, H0.out.2]
            exact Blk.drew ((((HB7.out.set_ 0 (.int .i64 t0)).set_ 1 (.int .i64 y0)).far (by simp; omega) _).far (by simp; omega) _)
          · rw [show laN n c' 0 = n - 1 from if_pos rfl, HL'.out.1, HL'.out.2]
            exact Blk.drew ((((HB8.out.far (by simp; omega) _).far (by simp; omega) _).set_ 0 (.int .i64 tl)).set_ 1 (.int .i64 yl))
          · exact (((((bt HW.out E0.out).setCell (by simp; omega) _).setCell (by simp; omega) _).setCell (by simp; omega) _).setCell (by simp; omega) _).drew
        · have d : (off == 0) = false := by simpa using ho
          have HO := Lib.hid ho
          clear ho
          go_wp2_with fail
          go_meet
          refine ⟨(D0.out.below E0.out), (D1.out.below E0.out), (D3.out.below E0.out), ?_, ?_, bt HW.out E0.out⟩
          · rw [show fiN a off = a from if_neg HO.out, HA.out.1, HA.out.2]; exact HB7.out
          · rw [show laN n c' off = c' from if_neg HO.out, HC'.out.1, HC'.out.2]; exact HB8.out
      case rest =>
        obtain ⟨b0, b1, b3, b7, b8, hbw⟩ := hcut
        clear k3 k7 k8 g7 g8 m1 m2 m3 m4 z1 z2 z3 z4
        have hfl : fiN a off < laN n c' off ∧ laN n c' off < n := by
          have h2 := HV.out.1
          rw [HL.out] at h2
          have h3 := HG.out
          unfold Gr GInv at h3
          rw [HL.out] at h3
          unfold fiN laN
          by_cases ho : off = 0
          · rw [if_pos ho, if_pos ho]; omega
          · rw [if_neg ho, if_neg ho]
            rcases h3 with ⟨h4, _⟩ | ⟨h4, h5, h6, _⟩
            · exact absurd h4 ho
            · omega
        have bdo := HG.out.bd HV.out rfl
        have of0 := HV.out.2.2 (fiN a off) (by rw [HL.out]; omega)
        have ol0 := HV.out.2.2 (laN n c' off) (by rw [HL.out]; omega)
        have hlt0 := HV.out.mono_tm hfl.1 (by rw [HL.out]; omega)
        have HP := Lib.hid (show ∃ p q r s, p = ofs rs (laN rs.length c' off) - ofs rs (fiN a off) ∧ q = tm rs (laN rs.length c' off) - tm rs (fiN a off) ∧ r = shN (ofs rs (fiN a off)) (tm rs (fiN a off)) p q off run ∧ s = shD q run from ⟨_, _, _, _, rfl, rfl, rfl, rfl⟩)
        unfold okAt at of0 ol0
        obtain ⟨tf, etf⟩ : ∃ x, tm rs (fiN a off) = x := ⟨_, rfl⟩
        obtain ⟨yf, eyf⟩ : ∃ x, ofs rs (fiN a off) = x := ⟨_, rfl⟩
        obtain ⟨te, ete⟩ : ∃ x, tm rs (laN n c' off) = x := ⟨_, rfl⟩
        obtain ⟨ye, eye⟩ : ∃ x, ofs rs (laN n c' off) = x := ⟨_, rfl⟩
        have OF : Hid (-1000000 ≤ tf ∧ tf ≤ 1000000 ∧ -1000000 ≤ yf ∧ yf ≤ 1000000) := by rw [← etf, ← eyf]; exact ⟨of0.1, of0.2.1, of0.2.2.1, of0.2.2.2.1⟩
        have OE : Hid (-1000000 ≤ te ∧ te ≤ 1000000 ∧ -1000000 ≤ ye ∧ ye ≤ 1000000) := by rw [← ete, ← eye]; exact ⟨ol0.1, ol0.2.1, ol0.2.2.1, ol0.2.2.2.1⟩
        rw [etf, eyf] at b7
        rw [ete, eye] at b8
        rw [etf, ete] at hlt0
        have HLT := Lib.hid hlt0
        have BDO := Lib.hid bdo
        have HEQ := Lib.hid (show tm rs (fiN a off) = tf ∧ ofs rs (fiN a off) = yf ∧ tm rs (laN n c' off) = te ∧ ofs rs (laN n c' off) = ye from ⟨etf, eyf, ete, eye⟩)
        clear of0 ol0 hlt0 bdo etf eyf ete eye hfl HP
        obtain ⟨l1, l2, l3, l4, ee, hline, hlc⟩ := LineR.ex (ye - yf) (te - tf) (shN yf tf (ye - yf) (te - tf) off run) (shD (te - tf) run)
        obtain ⟨f1, f2, ff, hfrac, hfc⟩ := FracR.ex (off.natAbs : Int) (2 * run)
        have HLINE := Lib.hid hline
        have HLC := Lib.hid hlc
        have HFRAC := Lib.hid hfrac
        have HFC := Lib.hid hfc
        have hsz := szs yf tf (ye - yf) (te - tf) off run (by have := OF.out; exact sz_small _ (by omega) (by omega)) (by have := OF.out; exact sz_small _ (by omega) (by omega)) (by have := OF.out; have := OE.out; exact sz_small _ (by omega) (by omega)) (by have := OF.out; have := OE.out; exact sz_small _ (by omega) (by omega)) (by have := BDO.out; exact sz_small _ (by omega) (by omega)) (by have := BDO.out; exact sz_small _ (by omega) (by omega))
        have HSZ := Lib.hid hsz
        have HHALF : Hid (∀ W : World, Calls Try.prog 21 #[.agg #[.int .i64 off, .int .i64 run]] W (Ret (fun v w' => WQ w' v off (2 * run)) W)) := by
          intro W
          have h := rhalf_any off run W (by have := BDO.out; omega) (by have := BDO.out; omega) (by have := BDO.out; omega) (by have := BDO.out; omega) (by have := BDO.out; omega)
          rw [rn_pos _ _ (by have := BDO.out; omega), rd_of_pos _ (by have := BDO.out; omega)] at h
          exact h
        have B0 := Lib.hid b0
        have B1 := Lib.hid b1
        have B3 := Lib.hid b3
        have B7 := Lib.hid b7
        have B8 := Lib.hid b8
        have HBW := Lib.hid hbw
        have k7 := b7.cells
        have k8 := b8.cells
        simp only [cellsAre, Nat.zero_add, Nat.reduceAdd, and_true] at k7 k8
        clear hline hlc hfrac hfc hsz b0 b1 b3 b7 b8 hbw
        go_wp2_with fail
        refine (rbetween_any tf yf te ye _ OF.out OE.out).mono ?_
        rintro e w3 ⟨v3, rfl, rfl, hb3⟩
        rw [if_neg (by have := HLT.out; omega)]
        go_wp2_with fail
        have hrat := rrat_any (ye - yf) (te - tf) w3 (by have := OF.out; have := OE.out; omega) (by have := OF.out; have := OE.out; omega) (by have := OF.out; have := OE.out; omega) (by have := OF.out; have := OE.out; omega) (by have := HLT.out; omega)
        rw [rn_pos _ _ (by have := HLT.out; omega), rd_of_pos _ (by have := HLT.out; omega)] at hrat
        refine hrat.mono ?_
        rintro e w4 ⟨v4, rfl, ⟨A9, n9, c9, A9', n9', c9', rfl, hx9, hx9', hq9⟩, hb4⟩
        clear hrat
        have HB34 := Lib.hid (bt hb3 hb4)
        clear hb3 hb4
        go_upto_region 8 with fail
        refine wp_world (fun W4 => Blk W4 w4.heap.size TR #[.bool (ng (ye - yf)), .slice A9 n9 c9, .bool (ng (te - tf)), .slice A9' n9' c9'] ∧ Below w4.heap.size w4 W4) (by exact ⟨Blk.new_ _ _ rfl, by go_grown⟩) ?_
        rintro W4 ⟨b9, hbw4⟩
        have HB4 := Lib.hid (show Ext wc W4 from bt HB34.out hbw4)
        have HS9 := Lib.hid (show WQ W4 _ (ye - yf) (te - tf) from ⟨_, _, _, _, _, _, rfl, hx9.below hbw4, hx9'.below hbw4, hq9⟩)
        have B9 := Lib.hid b9
        clear hx9 hx9' hq9 b9 hbw4 HB34 k7 k8
        have c7 := fun w' (hh : Ext W4 w') => (B7.out.below (bt HB4.out hh)).cells
        have c6 := fun w' (hh : Ext W4 w') => (B3.out.below (bt HB4.out hh)).cells
        have c9 := fun w' (hh : Ext W4 w') => (B9.out.below hh).cells
        simp only [cellsAre, Nat.zero_add, Nat.reduceAdd, and_true] at c6 c7 c9
        go_cut [10, 11] (fun s10 s11 wx => ∃ R10 : Nat, s10 = .pointer (some ⟨R10, 0, none⟩) ∧ s11 = .int .i64 ee ∧ Blk wx R10 TAL #[.int .i64 l1, .int .i64 l2, .int .i64 l3, .int .i64 l4] ∧ W4.heap.size ≤ R10 ∧ Below W4.heap.size W4 wx)
        case first =>
          have hst : Ext W4 W4.drew := Ext.drew _
          go_region_held3 (fun w' => Ext W4 w') (first | assumption | exact Ext.below (by assumption) (by assumption) | exact Ext.alloc (by assumption) _ | exact Ext.set_ (Ext.set_ (Ext.set_ (Ext.set_ (by assumption) (by first | exact Nat.le_refl _ | exact Ext.le (by assumption)) _) (by first | exact Nat.le_refl _ | exact Ext.le (by assumption)) _) (by first | exact Nat.le_refl _ | exact Ext.le (by assumption)) _) (by first | exact Nat.le_refl _ | exact Ext.le (by assumption)) _)
            (first | (go_at_call 16; have tk := hx6; refine (rline_any _ u6 (ye - yf) (te - tf) (shN yf tf (ye - yf) (te - tf) off run) (shD (te - tf) run) _ (HS9.out.ext (by assumption)) (hx6.below (by first | exact Below.refl _ _ | go_grown)) HSZ.out.2.2.2).mono ?_; rintro e x7 ⟨u7, rfl, hl7, hb7⟩; have hext : Ext W4 x7 := Ext.below (by assumption) hb7; (first | (have nb : Blk x7 (x6).heap.size TAL #[.int .i64 0, .int .i64 0, .int .i64 0, .int .i64 0] := Blk.below (Blk.new_ _ _ rfl) hb7; have nc := nb.cells; have nf := nb.free; simp only [cellsAre, Nat.zero_add, Nat.reduceAdd, and_true] at nc) | (have nb : Blk x7 (x6).heap.size TAL #[.int .i64 0, .int .i64 0, .int .i64 0, .int .i64 0] := Blk.below (Blk.drew (Blk.new_ _ _ rfl)) hb7; have nc := nb.cells; have nf := nb.free; simp only [cellsAre, Nat.zero_add, Nat.reduceAdd, and_true] at nc) | (have nb := Blk.below nb hb7; have nc := nb.cells; have nf := nb.free; simp only [cellsAre, Nat.zero_add, Nat.reduceAdd, and_true] at nc) | skip); have hv7 := HLINE.out _ _ hl7; subst hv7) | (go_at_call 20; have tk := hx5; refine (wqadd_any _ _ _ _ _ _ _ (hx4.below (by first | exact Below.refl _ _ | go_grown)) (hx5.below (by first | exact Below.refl _ _ | go_grown)) HSZ.out.2.2.1).mono ?_; rintro e x6 ⟨u6, rfl, hx6, hb6⟩; have hext : Ext W4 x6 := Ext.below (by assumption) hb6; (first | (have nb : Blk x6 (x5).heap.size TAL #[.int .i64 0, .int .i64 0, .int .i64 0, .int .i64 0] := Blk.below (Blk.new_ _ _ rfl) hb6; have nc := nb.cells; have nf := nb.free; simp only [cellsAre, Nat.zero_add, Nat.reduceAdd, and_true] at nc) | (have nb : Blk x6 (x5).heap.size TAL #[.int .i64 0, .int .i64 0, .int .i64 0, .int .i64 0] := Blk.below (Blk.drew (Blk.new_ _ _ rfl)) hb6; have nc := nb.cells; have nf := nb.free; simp only [cellsAre, Nat.zero_add, Nat.reduceAdd, and_true] at nc) | (have nb := Blk.below nb hb6; have nc := nb.cells; have nf := nb.free; simp only [cellsAre, Nat.zero_add, Nat.reduceAdd, and_true] at nc) | skip)) | (go_at_call 21; have tk := hx4; refine (HHALF.out _).mono ?_; rintro e x5 ⟨u5, rfl, hx5, hb5⟩; have hext : Ext W4 x5 := Ext.below (by assumption) hb5; (first | (have nb : Blk x5 (x4).heap.size TAL #[.int .i64 0, .int .i64 0, .int .i64 0, .int .i64 0] := Blk.below (Blk.new_ _ _ rfl) hb5; have nc := nb.cells; have nf := nb.free; simp only [cellsAre, Nat.zero_add, Nat.reduceAdd, and_true] at nc) | (have nb : Blk x5 (x4).heap.size TAL #[.int .i64 0, .int .i64 0, .int .i64 0, .int .i64 0] := Blk.below (Blk.drew (Blk.new_ _ _ rfl)) hb5; have nc := nb.cells; have nf := nb.free; simp only [cellsAre, Nat.zero_add, Nat.reduceAdd, and_true] at nc) | (have nb := Blk.below nb hb5; have nc := nb.cells; have nf := nb.free; simp only [cellsAre, Nat.zero_add, Nat.reduceAdd, and_true] at nc) | skip); have hx4 := hx4.below (bt (by first | exact Below.refl _ _ | go_grown) hb5)) | (go_at_call 18; have tk := hx3; refine (wqsub_any _ _ _ _ _ _ _ (hx1.below (by first | exact Below.refl _ _ | go_grown)) (hx3.below (by first | exact Below.refl _ _ | go_grown)) HSZ.out.2.1).mono ?_; rintro e x4 ⟨u4, rfl, hx4, hb4⟩; have hext : Ext W4 x4 := Ext.below (by assumption) hb4; (first | (have nb : Blk x4 (x3).heap.size TAL #[.int .i64 0, .int .i64 0, .int .i64 0, .int .i64 0] := Blk.below (Blk.new_ _ _ rfl) hb4; have nc := nb.cells; have nf := nb.free; simp only [cellsAre, Nat.zero_add, Nat.reduceAdd, and_true] at nc) | (have nb : Blk x4 (x3).heap.size TAL #[.int .i64 0, .int .i64 0, .int .i64 0, .int .i64 0] := Blk.below (Blk.drew (Blk.new_ _ _ rfl)) hb4; have nc := nb.cells; have nf := nb.free; simp only [cellsAre, Nat.zero_add, Nat.reduceAdd, and_true] at nc) | (have nb := Blk.below nb hb4; have nc := nb.cells; have nf := nb.free; simp only [cellsAre, Nat.zero_add, Nat.reduceAdd, and_true] at nc) | skip)) | (go_at_call 19; have tk := hx2; refine (wqmul_any _ _ _ _ _ _ _ (HS9.out.ext (by assumption)) (hx2.below (by first | exact Below.refl _ _ | go_grown)) HSZ.out.1).mono ?_; rintro e x3 ⟨u3, rfl, hx3, hb3⟩; have hext : Ext W4 x3 := Ext.below (by assumption) hb3; (first | (have nb : Blk x3 (x2).heap.size TAL #[.int .i64 0, .int .i64 0, .int .i64 0, .int .i64 0] := Blk.below (Blk.new_ _ _ rfl) hb3; have nc := nb.cells; have nf := nb.free; simp only [cellsAre, Nat.zero_add, Nat.reduceAdd, and_true] at nc) | (have nb : Blk x3 (x2).heap.size TAL #[.int .i64 0, .int .i64 0, .int .i64 0, .int .i64 0] := Blk.below (Blk.drew (Blk.new_ _ _ rfl)) hb3; have nc := nb.cells; have nf := nb.free; simp only [cellsAre, Nat.zero_add, Nat.reduceAdd, and_true] at nc) | (have nb := Blk.below nb hb3; have nc := nb.cells; have nf := nb.free; simp only [cellsAre, Nat.zero_add, Nat.reduceAdd, and_true] at nc) | skip); have hx1 := hx1.below (bt (by first | exact Below.refl _ _ | go_grown) hb3)) | (go_at_call 17; have tk := hx1; refine (wwhole_any tf _ (by have := OF.out; omega) (by have := OF.out; omega)).mono ?_; rintro e x2 ⟨u2, rfl, hx2, hb2⟩; have hext : Ext W4 x2 := Ext.below (by assumption) hb2; (first | (have nb : Blk x2 (x1).heap.size TAL #[.int .i64 0, .int .i64 0, .int .i64 0, .int .i64 0] := Blk.below (Blk.new_ _ _ rfl) hb2; have nc := nb.cells; have nf := nb.free; simp only [cellsAre, Nat.zero_add, Nat.reduceAdd, and_true] at nc) | (have nb : Blk x2 (x1).heap.size TAL #[.int .i64 0, .int .i64 0, .int .i64 0, .int .i64 0] := Blk.below (Blk.drew (Blk.new_ _ _ rfl)) hb2; have nc := nb.cells; have nf := nb.free; simp only [cellsAre, Nat.zero_add, Nat.reduceAdd, and_true] at nc) | (have nb := Blk.below nb hb2; have nc := nb.cells; have nf := nb.free; simp only [cellsAre, Nat.zero_add, Nat.reduceAdd, and_true] at nc) | skip); have hx1 := hx1.below (bt (by first | exact Below.refl _ _ | go_grown) hb2)) | (go_at_call 17; have tk := hst; refine (wwhole_any yf _ (by have := OF.out; omega) (by have := OF.out; omega)).mono ?_; rintro e x1 ⟨u1, rfl, hx1, hb1⟩; have hext : Ext W4 x1 := Ext.below (by assumption) hb1; (first | (have nb : Blk x1 (W4).heap.size TAL #[.int .i64 0, .int .i64 0, .int .i64 0, .int .i64 0] := Blk.below (Blk.new_ _ _ rfl) hb1; have nc := nb.cells; have nf := nb.free; simp only [cellsAre, Nat.zero_add, Nat.reduceAdd, and_true] at nc) | (have nb : Blk x1 (W4).heap.size TAL #[.int .i64 0, .int .i64 0, .int .i64 0, .int .i64 0] := Blk.below (Blk.drew (Blk.new_ _ _ rfl)) hb1; have nc := nb.cells; have nf := nb.free; simp only [cellsAre, Nat.zero_add, Nat.reduceAdd, and_true] at nc) | (have nb := Blk.below nb hb1; have nc := nb.cells; have nf := nb.free; simp only [cellsAre, Nat.zero_add, Nat.reduceAdd, and_true] at nc) | skip)))
          all_goals (go_wp2_with fail; go_meet; refine ⟨_, rfl, rfl, ?_, ?_, ?_⟩)
          all_goals (first | exact (((nb.set_ 0 _).set_ 1 _).set_ 2 _).set_ 3 _ | exact Blk.new_ _ _ rfl | exact Nat.le_refl _ | exact Ext.le (by assumption) | (show Ext W4 _; assumption))
        case rest =>
          obtain ⟨R10, rfl, rfl, hb10, h10, hbx⟩ := hcut
          have EX := Lib.hid (show Ext W4 wc from hbx)
          have HB10 := Lib.hid hb10
          have k6 := c6 _ hbx
          clear c6 c7 c9 hb10 hbx
          go_wp2_with fail
          refine (HHALF.out _).mono ?_
          rintro e y1 ⟨z1, rfl, hz1, hd1⟩
          go_wp2_with fail
          refine (wqabs_any _ _ _ _ hz1).mono ?_
          rintro e y2 ⟨z2, rfl, hz2, hd2⟩
          go_wp2_with fail
          refine (wfrac_any _ _ _ _ hz2 (by have := BDO.out; have := sz_small (off.natAbs : Int) (by omega) (by omega); omega) (by have := BDO.out; have := sz_small (2 * run) (by omega) (by omega); omega)).mono ?_
          rintro e y3 ⟨z3, rfl, hz3, hd3⟩
          have hv := HFRAC.out _ _ hz3
          subst hv
          have ey : Ext wc y3 := bt (bt hd1 hd2) hd3
          have szy : wc.heap.size ≤ y3.heap.size := Ext.le ey
          clear hz1 hz2 hz3 hd1 hd2 hd3 k6
          go_upto_region 10 with fail
          have ez := ey.alloc (.cells #[.int .i64 f1, .int .i64 f2] TF)
          refine wp_world (fun W5 => Blk W5 w.heap.size TAL #[.int .i64 0, .int .i64 0, .int .i64 0, .int .i64 0] ∧ Blk W5 (w.heap.size + 1) TF #[.int .i64 0, .int .i64 0] ∧ Blk W5 R10 TAL #[.int .i64 l1, .int .i64 l2, .int .i64 l3, .int .i64 l4] ∧ Blk W5 y3.heap.size TF #[.int .i64 f1, .int .i64 f2] ∧ Below w.heap.size w W5) (by exact ⟨B0.out.below (bt HB4.out (bt EX.out ez)), B1.out.below (bt HB4.out (bt EX.out ez)), HB10.out.below ez, Blk.new_ _ _ rfl, bt HBW.out (bt HB4.out (bt EX.out ez))⟩) ?_
          rintro W5 ⟨a0, a1, a10, a12, hw5⟩
          clear ey ez
          have k0 := a0.cells
          have k1 := a1.cells
          have k10 := a10.cells
          have k12 := a12.cells
          have g0 := a0.free
          have g1 := a1.free
          simp only [cellsAre, Nat.zero_add, Nat.reduceAdd, and_true] at k0 k1 k10 k12
          have lt10 : w.heap.size + 1 + 1 ≤ R10 := by have := Below.size HBW.out; have := Below.size HB4.out; have := B1.out.lt; omega
          have lt12 : w.heap.size + 1 + 1 ≤ y3.heap.size := by have := Below.size HBW.out; have := Below.size HB4.out; have := Below.size EX.out; have := B1.out.lt; omega
          have n1 : R10 ≠ w.heap.size := by omega
          have n2 : R10 ≠ w.heap.size + 1 := by omega
          have n3 : y3.heap.size ≠ w.heap.size := by omega
          have n4 : y3.heap.size ≠ w.heap.size + 1 := by omega
          have n5 : w.heap.size ≠ R10 := by omega
          have n6 : w.heap.size + 1 ≠ R10 := by omega
          have n7 : w.heap.size ≠ y3.heap.size := by omega
          have n8 : w.heap.size + 1 ≠ y3.heap.size := by omega
          have HW5 := Lib.hid hw5
          clear hw5 a0 a1 a10 a12 lt10 lt12 szy
          clear HC H0 HL' HB7 HB8 B7 B8 B9 HS9 D0 D1 D2 D3 E0 HA HC' HSZ HHALF HFRAC HLINE B3 B0 B1 HB10 HB4 EX HBW
          rcases HLC.out with ⟨o1, o2, e1, e2, e3, e4, e0⟩ | ⟨o1, e0⟩
          · rcases HFC.out with ⟨o3, e5, e6, e7⟩ | ⟨o3, e7⟩
            · have E := Lib.hid (And.intro e1 (And.intro e2 (And.intro e3 (And.intro e4 (And.intro e5 e6)))))
              have O := Lib.hid (And.intro o1 (And.intro o2 o3))
              clear e1 e2 e3 e4 e5 e6 o1 o2 o3 HLC HFC
              subst e0 e7
              go_upto_region 12 with fail
              go_region
              clear k10 k12 n1 n2 n3 n4 n5 n6 n7 n8
              (try simp only [Exit.then])
              apply_assumption
              refine wp_ret ?_
              (try simp only [Exit.inBlock, Exit.then])
              refine bodyPost_ret (v := .tuple #[.agg #[.int .i64 l1, .int .i64 l2, .int .i64 l3, .int .i64 l4], .agg #[.int .i64 f1, .int .i64 f2], .int .i64 0]) (by simp [results, Try.results5, go_sem, k0, k1]) rfl ?_
              exact ⟨_, rfl, ⟨fun h => absurd HV.out h, fun _ => ⟨a, b, c', off, run, ye - yf, te - tf, shN yf tf (ye - yf) (te - tf) off run, shD (te - tf) run, HG.out, by rw [HL.out, HEQ.out.2.2.2, HEQ.out.2.1], by rw [HL.out, HEQ.out.2.2.1, HEQ.out.1], by rw [HEQ.out.2.1, HEQ.out.1], rfl, fun _ => by rw [← E.out.1, ← E.out.2.1, ← E.out.2.2.1, ← E.out.2.2.2.1, ← E.out.2.2.2.2.1, ← E.out.2.2.2.2.2], fun h => absurd O.out h⟩⟩, ((((((HW5.out.setCell (Nat.le_refl _) _).setCell (Nat.le_refl _) _).setCell (Nat.le_refl _) _).setCell (Nat.le_refl _) _).setCell (by simp) _).setCell (by simp) _).drew⟩
            · clear e1 e2 e3 e4 HLC HFC k10 k12 n1 n2 n3 n4 n5 n6 n7 n8
              have O := Lib.hid (fun (h : okFrac (ye - yf) (te - tf) ∧ okFrac (shN yf tf (ye - yf) (te - tf) off run) (shD (te - tf) run) ∧ okFrac (off.natAbs : Int) (2 * run)) => o3 h.2.2)
              clear o1 o2 o3
              subst e0 e7
              go_upto_region 11 with fail
              go_upto_region 12 with fail
              (try simp only [Exit.inBlock, Exit.then])
              refine bodyPost_ret (v := .tuple #[.agg #[.int .i64 0, .int .i64 0, .int .i64 0, .int .i64 0], .agg #[.int .i64 0, .int .i64 0], .int .i64 5]) (by simp [results, Try.results5, go_sem, k0, k1]) rfl ?_
              exact ⟨_, rfl, ⟨fun h => absurd HV.out h, fun _ => ⟨a, b, c', off, run, ye - yf, te - tf, shN yf tf (ye - yf) (te - tf) off run, shD (te - tf) run, HG.out, by rw [HL.out, HEQ.out.2.2.2, HEQ.out.2.1], by rw [HL.out, HEQ.out.2.2.1, HEQ.out.1], by rw [HEQ.out.2.1, HEQ.out.1], rfl, fun h => absurd h O.out, fun _ => rfl⟩⟩, ((((((HW5.out.setCell (Nat.le_refl _) _).setCell (Nat.le_refl _) _).setCell (Nat.le_refl _) _).setCell (Nat.le_refl _) _).setCell (by simp) _).setCell (by simp) _)⟩
          · clear HLC HFC k10 k12 n1 n2 n3 n4 n5 n6 n7 n8
            have O := Lib.hid (fun (h : okFrac (ye - yf) (te - tf) ∧ okFrac (shN yf tf (ye - yf) (te - tf) off run) (shD (te - tf) run) ∧ okFrac (off.natAbs : Int) (2 * run)) => o1 ⟨h.1, h.2.1⟩)
            clear o1
            subst e0
            go_upto_region 11 with fail
            go_upto_region 12 with fail
            (try simp only [Exit.inBlock, Exit.then])
            refine bodyPost_ret (v := .tuple #[.agg #[.int .i64 0, .int .i64 0, .int .i64 0, .int .i64 0], .agg #[.int .i64 0, .int .i64 0], .int .i64 5]) (by simp [results, Try.results5, go_sem, k0, k1]) rfl ?_
            exact ⟨_, rfl, ⟨fun h => absurd HV.out h, fun _ => ⟨a, b, c', off, run, ye - yf, te - tf, shN yf tf (ye - yf) (te - tf) off run, shD (te - tf) run, HG.out, by rw [HL.out, HEQ.out.2.2.2, HEQ.out.2.1], by rw [HL.out, HEQ.out.2.2.1, HEQ.out.1], by rw [HEQ.out.2.1, HEQ.out.1], rfl, fun h => absurd h O.out, fun _ => rfl⟩⟩, ((((((HW5.out.setCell (Nat.le_refl _) _).setCell (Nat.le_refl _) _).setCell (Nat.le_refl _) _).setCell (Nat.le_refl _) _).setCell (by simp) _).setCell (by simp) _)⟩
  · rw [vld_false hv]
    have HV := Lib.hid hv
    have k0 := (bl0.below hb1).cells
    have k1 := (bl1.below hb1).cells
    have f0 := (bl0.below hb1).free
    have f1 := (bl1.below hb1).free
    simp only [cellsAre, Nat.zero_add, Nat.reduceAdd, and_true] at k0 k1
    clear hv bl0 bl1
    have HB := Lib.hid (bt hbx hb1)
    go_wp2
    (try simp only [Exit.inBlock, Exit.then])
    refine bodyPost_ret (v := .tuple #[.agg #[.int .i64 0, .int .i64 0, .int .i64 0, .int .i64 0], .agg #[.int .i64 0, .int .i64 0], .int .i64 1]) (by simp [results, Try.results5, go_sem, k0, k1]) rfl ?_
    exact ⟨_, rfl, ⟨fun _ => rfl, fun h => absurd h HV.out⟩, (((((HB.out.setCell (Nat.le_refl _) _).setCell (Nat.le_refl _) _).setCell (Nat.le_refl _) _).setCell (Nat.le_refl _) _).setCell (by simp) _).setCell (by simp) _⟩
end Go.Proofs.Tb
