/- TopFewest, the walk: no way to part readings into runs, each within the error, has fewer runs than Pieces. -/
import Derived.Test.YtcbffkkcldnegaaTopA
import Derived.Test.YtcbffkkcldnegaaRateL
set_option linter.unusedVariables false
set_option linter.unusedSimpArgs false
namespace Go.Proofs.Tb
open Go.RowKit
attribute [local go_sem] cell_set_same

theorem and255 (x : Int) : 0 ≤ bits .and .i64 x 255 ∧ bits .and .i64 x 255 ≤ 255 := by
  have h : (BitVec.ofInt 64 x &&& BitVec.ofInt 64 255).toNat ≤ 255 := by
    rw [BitVec.toNat_and]
    exact Nat.and_le_right
  have e : bits .and .i64 x 255 = IntKind.i64.wrap ((BitVec.ofInt 64 x &&& BitVec.ofInt 64 255).toNat : Int) := rfl
  rw [e, IntWalk.i64_in _ (by omega)]
  omega
/-- A run's least greatest error is at most that of all. -/
theorem IsLeast.sub_le {rs : List Rdg} {a n : Nat} {s h E s2 h2 E2 : Rat} (hv : Vld rs) (han : a + n ≤ rs.length) (hn : 2 ≤ n) (k : IsLeast rs.length (tq rs) (yq rs) s h E)
    (k2 : IsLeast (subR rs a n).length (tq (subR rs a n)) (yq (subR rs a n)) s2 h2 E2) : E2 ≤ E := by
  have hv2 := hv.sub han hn
  refine k2.best (s' := s) (h' := h) hv2.tq_mono hv2.1 fun i hi => ?_
  rw [subR_len han] at hi
  have e : er (tq (subR rs a n)) (yq (subR rs a n)) s h i = er (tq rs) (yq rs) s h (a + i) := by unfold er; rw [subR_tq hi, subR_yq hi]
  rw [e]
  exact k.le (a + i) (by omega)
theorem IsLeast.sub_wi {rs : List Rdg} {a n : Nat} {x s2 h2 E2 : Rat} (hv : Vld rs) (han : a + n ≤ rs.length) (hn : 2 ≤ n) (hx : 0 ≤ x)
    (k2 : IsLeast (subR rs a n).length (tq (subR rs a n)) (yq (subR rs a n)) s2 h2 E2) : E2 ≤ x ↔ Wi (tq rs) (yq rs) x a (a + (n - 1)) := by
  have hv2 := hv.sub han hn
  have h1 := k2.tri hv2.tq_mono hx
  rw [subR_len han] at h1
  exact h1.trans (wi_sub (by omega)).symm
/-- Whoever parts the readings otherwise is not ahead, as long as all is fine. -/
def Few (rs : List Rdg) (x : Rat) (ps : List Nat) (fi : Bool) (u t : Nat) : Prop := fi = true → u < ps.length → t ≤ ps.getD u 0
theorem Few.start {rs : List Rdg} {x : Rat} {ps : List Nat} : Few rs x ps true 0 0 := fun _ _ => Nat.zero_le _
theorem Few.step {rs : List Rdg} {x : Rat} {ps : List Nat} {u t nx m : Nat} {fi fi' : Bool} (h : Few rs x ps fi u t) (hp : PcS (tq rs) (yq rs) x m ps) (hf : fi' = true → fi = true ∧ Wi (tq rs) (yq rs) x t (nx - 1)) : Few rs x ps fi' (u + 1) nx := fun h1 h2 =>
  hp.step (h (hf h1).1) (hf h1).2 h2

set_option maxHeartbeats 12800000 in
set_option maxRecDepth 100000 in
theorem fewest_any (A D : Option Addr) (n c ne ce : Nat) (xs : List Rdg) (es : List Int) (a b : Int) (w : World) (h : Rd w A n c xs) (hes : Il w D ne ce es) :
    Calls Try.prog 14 #[.slice A n c, .agg #[.int .i64 a, .int .i64 b], .slice D ne ce] w (Ret (fun v _ => v = .bool true) w) := by
  have H := Lib.hid h
  have HES := Lib.hid hes
  have hne := hes.le
  have hce := hes.cap
  clear h hes
  go_enter Try.func14, Try.ntmps14
  go_wp2_with fail
  obtain ⟨W0, hW0⟩ : ∃ W0, W0 = w.alloc (.cells #[.int .i64 a, .int .i64 b] TF) := ⟨_, rfl⟩
  have e3 : Blk W0 w.heap.size TF #[.int .i64 a, .int .i64 b] := by rw [hW0]; exact Blk.new_ _ _ rfl
  have hb0 : Below w.heap.size w W0 := by rw [hW0]; go_grown
  rw [← hW0]
  clear hW0
  refine (readings_any A n c xs 16 W0 (H.out.below hb0) (by omega)).mono ?_
  rintro e w1 ⟨v1, rfl, ⟨rs, htm, A1, c1, rfl, hrd⟩, hb1⟩
  have HV := Lib.hid (htm.vld (by omega))
  have HSM := Lib.hid (htm.small (by omega))
  obtain ⟨m, hm⟩ : ∃ m, rs.length = m := ⟨_, rfl⟩
  have hm20 : m ≤ 16 := by have := htm.2.1; omega
  have hm2 : 2 ≤ m := by have := htm.1; omega
  have hc1 := hrd.cap
  have hm1 := hrd.le
  have HR1 := Lib.hid hrd
  rw [hm] at HR1 hm1 ⊢
  have HM := Lib.hid hm
  have E3 := Lib.hid (e3.below hb1)
  have HB1 := Lib.hid (bt hb0 hb1)
  have k3 := E3.out.cells
  simp only [cellsAre, Nat.zero_add, Nat.reduceAdd, and_true] at k3
  clear htm hrd hb1 hm hb0 e3
  obtain ⟨pb1, pb2⟩ := and255 a
  obtain ⟨p, hp⟩ : ∃ p, bits .and .i64 a 255 = p := ⟨_, rfl⟩
  rw [hp] at pb1 pb2
  obtain ⟨qb1, qb2⟩ := and7 b
  obtain ⟨q, hq⟩ : ∃ q, bits .and .i64 b 7 = q := ⟨_, rfl⟩
  rw [hq] at qb1 qb2
  go_wp2_with fail
  refine (gmake_any p (q + 1) w1 (by omega) (by omega)).mono ?_
  rintro e w2 ⟨v2, rfl, hv2, hb2⟩
  have hfit := fit_small (p := p) (q := q + 1) (by omega) (by omega)
  have hx0 := qv_nonneg (p := p) (q := q + 1) (by omega) pb1
  obtain ⟨x, hx⟩ : ∃ x, qv p (q + 1) = x := ⟨_, rfl⟩
  rw [hx] at hv2 hfit hx0
  have HX0 := Lib.hid hx0
  have HVX := Lib.hid (fit_vf hfit)
  have RX := Lib.hid (fit_rng hfit)
  have QX := Lib.hid (qv_self x)
  have HN0 := Lib.hid (Rat.num_nonneg.2 hx0)
  obtain ⟨xn, hxn⟩ : ∃ z, x.num = z := ⟨_, rfl⟩
  obtain ⟨xd, hxd⟩ : ∃ z : Int, (x.den : Int) = z := ⟨_, rfl⟩
  rw [hxn, hxd] at hv2 HVX RX QX
  rw [hxn] at HN0
  subst hv2
  have HOK : Hid (AskOk rs xn xd) := ⟨HV.out, HVX.out, HN0.out⟩
  have HB2 := Lib.hid (show Ext w1 w2 from hb2)
  clear hb2 hx hxn hxd hfit hx0 hp hq pb1 pb2 qb1 qb2 k3
  go_upto_region 3 with fail
  refine wp_world (fun W => Blk W w2.heap.size TF #[.int .i64 xn, .int .i64 xd] ∧ Below w2.heap.size w2 W) (by exact ⟨Blk.new_ _ _ rfl, by go_grown⟩) ?_
  rintro W3 ⟨e6, hb3⟩
  have E6 := Lib.hid e6
  have HB3 := Lib.hid (show Ext w1 W3 from bt HB2.out hb3)
  have HR3 := Lib.hid (HR1.out.below HB3.out)
  have k6 := e6.cells
  simp only [cellsAre, Nat.zero_add, Nat.reduceAdd, and_true] at k6
  clear e6 hb3
  go_wp2_with fail
  refine (rpieces_any A1 m c1 rs xn xd _ HR3.out RX.out.1 RX.out.2.2).mono ?_
  rintro e w4 ⟨v4, rfl, h4, hb4⟩
  obtain ⟨ps, A4, n4, c4, hv4, hsl, hpc⟩ := h4.2 HOK.out
  subst hv4
  rw [QX.out, HM.out] at hpc
  have hn4 : ps.length = n4 := by have := hsl.len; simpa using this
  have hle4 := hsl.le
  have hcap4 := hsl.cap
  have hn41 : 1 ≤ n4 := by have := hpc.1.1; omega
  have HPC := Lib.hid hpc
  have HN4 := Lib.hid hn4
  have HB4 := Lib.hid (show Ext W3 w4 from hb4)
  clear h4 hb4 k6 hpc hsl hn4
  go_wp2_with fail
  refine (rleast_any A1 m c1 rs _ (HR3.out.below HB4.out)).mono ?_
  rintro e w5 ⟨v5, rfl, h5, hb5⟩
  obtain ⟨s, k, E, hi, f1, f2, f3, hv5⟩ := h5.ok HV.out HSM.out
  subst hv5
  have HI := Lib.hid hi
  have HVE := Lib.hid (fit_vf f3)
  have RE := Lib.hid (fit_rng f3)
  have QE := Lib.hid (qv_self E)
  obtain ⟨sn, hsn⟩ : ∃ x, s.num = x := ⟨_, rfl⟩
  obtain ⟨sd, hsd⟩ : ∃ x : Int, (s.den : Int) = x := ⟨_, rfl⟩
  obtain ⟨kn, hkn⟩ : ∃ x, k.num = x := ⟨_, rfl⟩
  obtain ⟨kd, hkd⟩ : ∃ x : Int, (k.den : Int) = x := ⟨_, rfl⟩
  obtain ⟨en, hen⟩ : ∃ x, E.num = x := ⟨_, rfl⟩
  obtain ⟨ed, hed⟩ : ∃ x : Int, (E.den : Int) = x := ⟨_, rfl⟩
  rw [hsn, hsd, hkn, hkd, hen, hed]
  rw [hen, hed] at RE HVE QE
  have HB5 := Lib.hid (show Ext W3 w5 from bt HB4.out hb5)
  clear h5 hi f1 f2 f3 hsn hsd hkn hkd hen hed hb5
  have g1 : ((n4 : Int) == 0) = false := by rw [beq_eq_false_iff_ne]; omega
  go_upto_region 7 with fail
  refine wp_world (fun W => Blk W (w5.heap.size + 1) TF #[.int .i64 en, .int .i64 ed] ∧ Below w5.heap.size w5 W) (by exact ⟨Blk.new_ _ _ (by simp), by go_grown⟩) ?_
  rintro W6 ⟨e13, hb6⟩
  have E13 := Lib.hid e13
  have HB6 := Lib.hid (show Ext W3 W6 from bt HB5.out hb6)
  have E8 := Lib.hid (E6.out.below HB6.out)
  have HR6 := Lib.hid (HR3.out.below HB6.out)
  have HBT := Lib.hid (bt HB1.out (bt HB3.out HB6.out))
  obtain ⟨bb, oo, rfl, _⟩ := HR1.out.at_ (by omega)
  clear e13 hb6 g1
  go_wp2
  go_loopw [15, 16, 17, 18] (fun x15 x16 x17 x18 wr => ∃ (u t : Nat) (fi : Bool), x15 = .int .i64 u ∧ x16 = .int .i64 t ∧ x17 = .bool fi ∧ x18 = .int .i64 u ∧ t ≤ m ∧ u ≤ t ∧ Few rs x ps fi u t ∧ Ext W6 wr) (fun _ x16 _ _ _ => m - (intOf x16).toNat)
  case atStart => exact ⟨0, 0, true, rfl, rfl, rfl, rfl, Nat.zero_le _, Nat.le_refl _, Few.start, Ext.refl _⟩
  case round =>
    obtain ⟨u, t, fi, rfl, rfl, rfl, rfl, ht, hut, hfew, hxx⟩ := hrel
    obtain ⟨wj, rfl⟩ : ∃ wo : World, wo = wr := ⟨_, rfl⟩
    have HF := Lib.hid hfew
    have HXJ := Lib.hid hxx
    clear hfew hxx
    by_cases htm : t < m
    · have g1 : decide ((t : Int) < (m : Int)) = true := by simp; omega
      have g1' : decide (t < m) = true := by simp; omega
      by_cases hu : u < ne ∧ u < 20
      · obtain ⟨hu1, hu2⟩ := hu
        have g2 : decide ((u : Int) < (ne : Int)) = true := by simp; omega
        have g2' : decide (u < ne) = true := by simp; omega
        have g3 : decide ((u : Int) < 20) = true := by simp; omega
        have p1 : (u : Int) < (ne : Int) := by omega
        obtain ⟨b2, o2, rfl, hce2⟩ := (HES.out.below (bt HBT.out HXJ.out)).at_ (by omega)
        have cu := hce2 u hu1
        obtain ⟨z, hz⟩ : ∃ z, es.getD u 0 = z := ⟨_, rfl⟩
        rw [hz] at cu
        obtain ⟨b1', b2'⟩ := and7 z
        obtain ⟨d, hd⟩ : ∃ d : Nat, bits .and .i64 z 7 = (d : Int) := ⟨(bits .and .i64 z 7).toNat, by omega⟩
        have hd7 : d ≤ 7 := by omega
        clear hce2 hz b1' b2'
        obtain ⟨nx, hnx⟩ : ∃ nx, t + 1 + d = nx := ⟨_, rfl⟩
        have r1 : (t : Int) + 1 + (d : Int) = (nx : Int) := by omega
        by_cases hlt : nx < m
        · have q1 : (nx : Int) < (m : Int) := by omega
          have q2 : min (m : Int) (nx : Int) = (nx : Int) := by omega
          have htn : t < nx := by omega
          have hnm : nx ≤ m := by omega
          clear hnx
          by_cases hbig : 2 ≤ nx - t
          · have g5 : decide ((2 : Int) ≤ (nx : Int) - (t : Int)) = true := by simp; omega
            have s1 := fun w => rd_slice_lh bb oo m c1 t nx w (by omega) (by omega) (by omega)
            go_wp2_with fail
            refine (rleast_any _ _ _ (subR rs t (nx - t)) _ ((HR6.out.below HXJ.out).sub (by omega) hnm)).mono ?_
            rintro e w7 ⟨v7, rfl, h7, hb7⟩
            obtain ⟨s2, k2, E2, hi2, f1, f2, f3, hv7⟩ := h7.ok (HV.out.sub (by have := HM.out; omega) hbig) (HSM.out.sub (by have := HM.out; omega))
            subst hv7
            have hle := IsLeast.sub_le HV.out (by have := HM.out; omega) hbig HI.out hi2
            have hwi := IsLeast.sub_wi HV.out (by have := HM.out; omega) hbig HX0.out hi2
            rw [show t + (nx - t - 1) = nx - 1 by omega] at hwi
            have HWI := Lib.hid hwi
            have gc := cmpR_leB (Rat.not_lt.2 hle)
            have HVE2 := Lib.hid (fit_vf f3)
            have RE2 := Lib.hid (fit_rng f3)
            have QE2 := Lib.hid (qv_self E2)
            have HB7 := Lib.hid (show Ext W6 w7 from bt HXJ.out hb7)
            obtain ⟨sn2, hsn⟩ : ∃ x, s2.num = x := ⟨_, rfl⟩
            obtain ⟨sd2, hsd⟩ : ∃ x : Int, (s2.den : Int) = x := ⟨_, rfl⟩
            obtain ⟨kn2, hkn⟩ : ∃ x, k2.num = x := ⟨_, rfl⟩
            obtain ⟨kd2, hkd⟩ : ∃ x : Int, (k2.den : Int) = x := ⟨_, rfl⟩
            obtain ⟨en2, hen⟩ : ∃ x, E2.num = x := ⟨_, rfl⟩
            obtain ⟨ed2, hed⟩ : ∃ x : Int, (E2.den : Int) = x := ⟨_, rfl⟩
            rw [hsn, hsd, hkn, hkd, hen, hed]
            rw [hen, hed] at RE2 HVE2 QE2
            have HC1 : Hid (∀ W, Calls Try.prog 54 #[.agg #[.int .i64 en2, .int .i64 ed2], .agg #[.int .i64 en, .int .i64 ed]] W (Ret (fun v _ => v = .tuple #[.int .i64 (cmpR E2 E), .int .i64 0]) W)) := fun W => by
              have := gcmp_any en2 ed2 en ed W RE2.out.1 RE2.out.2 RE.out.1 RE.out.2 HVE2.out HVE.out
              rw [QE2.out, QE.out] at this
              exact this
            have HC2 : Hid (∀ W, Calls Try.prog 54 #[.agg #[.int .i64 en2, .int .i64 ed2], .agg #[.int .i64 xn, .int .i64 xd]] W (Ret (fun v _ => v = .tuple #[.int .i64 (cmpR E2 x), .int .i64 0]) W)) := fun W => by
              have := gcmp_any en2 ed2 xn xd W RE2.out.1 RE2.out.2 RX.out.1 RX.out.2 HVE2.out HVX.out
              rw [QE2.out, QX.out] at this
              exact this
            obtain ⟨cv, hcv⟩ : ∃ z, cmpR E2 E = z := ⟨_, rfl⟩
            rw [hcv] at HC1 gc
            clear h7 hi2 f1 f2 f3 hb7 hle hwi hsn hsd hkn hkd hen hed hcv s1
            go_upto_region 16 with fail
            refine wp_world (fun W => Blk W (w7.heap.size + 1) TF #[.int .i64 en2, .int .i64 ed2] ∧ Below w7.heap.size w7 W) (by exact ⟨Blk.new_ _ _ (by simp), by go_grown⟩) ?_
            rintro W8 ⟨e21, hb8⟩
            have E21 := Lib.hid e21
            have HB8 := Lib.hid (show Ext W6 W8 from bt HB7.out hb8)
            have k21 := e21.cells
            have k13 := (E13.out.below HB8.out).cells
            simp only [cellsAre, Nat.zero_add, Nat.reduceAdd, and_true] at k21 k13
            clear e21 hb8
            go_wp2_with fail
            refine (HC1.out _).mono ?_
            rintro e w9 ⟨v9, rfl, rfl, hb9⟩
            have k21 := (E21.out.below hb9).cells
            have HB9 := Lib.hid (show Ext W6 w9 from bt HB8.out hb9)
            have k8 := (E8.out.below HB9.out).cells
            simp only [cellsAre, Nat.zero_add, Nat.reduceAdd, and_true] at k21 k8
            clear hb9 k13
            go_wp2_with fail
            refine (HC2.out _).mono ?_
            rintro e w10 ⟨v10, rfl, rfl, hb10⟩
            have HB10 := Lib.hid (show Ext W6 w10 from bt HB9.out hb10)
            clear hb10 k21 k8
            by_cases hEx : E2 ≤ x
            · have gd := cmpR_leT hEx
              have HF2 := Lib.hid (HF.out.step (fi' := fi) HPC.out (fun h => ⟨h, HWI.out.1 hEx⟩))
              clear hEx
              cases fi
              · go_wp2
                go_roundw
                case rel => exact ⟨u + 1, nx, false, by go_num, rfl, rfl, by go_num, hnm, by omega, HF2.out, HB10.out⟩
                case measure => first | (simp [intOf]; done) | (simp [intOf]; omega)
              · go_wp2
                go_roundw
                case rel => exact ⟨u + 1, nx, true, by go_num, rfl, rfl, by go_num, hnm, by omega, HF2.out, HB10.out⟩
                case measure => first | (simp [intOf]; done) | (simp [intOf]; omega)
            · have gd := cmpR_leF hEx
              have HF2 : Hid (Few rs x ps false (u + 1) nx) := fun h => absurd h (by decide)
              clear hEx
              cases fi
              · go_wp2
                go_roundw
                case rel => exact ⟨u + 1, nx, false, by go_num, rfl, rfl, by go_num, hnm, by omega, HF2.out, HB10.out⟩
                case measure => first | (simp [intOf]; done) | (simp [intOf]; omega)
              · go_wp2
                go_roundw
                case rel => exact ⟨u + 1, nx, false, by go_num, rfl, rfl, by go_num, hnm, by omega, HF2.out, HB10.out⟩
                case measure => first | (simp [intOf]; done) | (simp [intOf]; omega)
          · have g5 : decide ((2 : Int) ≤ (nx : Int) - (t : Int)) = false := by simp; omega
            have HF2 := Lib.hid (HF.out.step (fi' := fi) (nx := nx) HPC.out (fun h => ⟨h, Wi.two (by omega)⟩))
            go_wp2
            go_roundw
            case rel => exact ⟨u + 1, nx, fi, by go_num, rfl, rfl, by go_num, hnm, by omega, HF2.out, HXJ.out⟩
            case measure => first | (simp [intOf]; done) | (simp [intOf]; omega)
        · have q1 : ¬ (nx : Int) < (m : Int) := by omega
          have q2 : min (m : Int) (nx : Int) = (m : Int) := by omega
          have htn : t < m := by omega
          have hnm : m ≤ m := by omega
          clear hnx
          by_cases hbig : 2 ≤ m - t
          · have g5 : decide ((2 : Int) ≤ (m : Int) - (t : Int)) = true := by simp; omega
            have s1 := fun w => rd_slice_lh bb oo m c1 t m w (by omega) (by omega) (by omega)
            go_wp2_with fail
            refine (rleast_any _ _ _ (subR rs t (m - t)) _ ((HR6.out.below HXJ.out).sub (by omega) hnm)).mono ?_
            rintro e w7 ⟨v7, rfl, h7, hb7⟩
            obtain ⟨s2, k2, E2, hi2, f1, f2, f3, hv7⟩ := h7.ok (HV.out.sub (by have := HM.out; omega) hbig) (HSM.out.sub (by have := HM.out; omega))
            subst hv7
            have hle := IsLeast.sub_le HV.out (by have := HM.out; omega) hbig HI.out hi2
            have hwi := IsLeast.sub_wi HV.out (by have := HM.out; omega) hbig HX0.out hi2
            rw [show t + (m - t - 1) = m - 1 by omega] at hwi
            have HWI := Lib.hid hwi
            have gc := cmpR_leB (Rat.not_lt.2 hle)
            have HVE2 := Lib.hid (fit_vf f3)
            have RE2 := Lib.hid (fit_rng f3)
            have QE2 := Lib.hid (qv_self E2)
            have HB7 := Lib.hid (show Ext W6 w7 from bt HXJ.out hb7)
            obtain ⟨sn2, hsn⟩ : ∃ x, s2.num = x := ⟨_, rfl⟩
            obtain ⟨sd2, hsd⟩ : ∃ x : Int, (s2.den : Int) = x := ⟨_, rfl⟩
            obtain ⟨kn2, hkn⟩ : ∃ x, k2.num = x := ⟨_, rfl⟩
            obtain ⟨kd2, hkd⟩ : ∃ x : Int, (k2.den : Int) = x := ⟨_, rfl⟩
            obtain ⟨en2, hen⟩ : ∃ x, E2.num = x := ⟨_, rfl⟩
            obtain ⟨ed2, hed⟩ : ∃ x : Int, (E2.den : Int) = x := ⟨_, rfl⟩
            rw [hsn, hsd, hkn, hkd, hen, hed]
            rw [hen, hed] at RE2 HVE2 QE2
            have HC1 : Hid (∀ W, Calls Try.prog 54 #[.agg #[.int .i64 en2, .int .i64 ed2], .agg #[.int .i64 en, .int .i64 ed]] W (Ret (fun v _ => v = .tuple #[.int .i64 (cmpR E2 E), .int .i64 0]) W)) := fun W => by
              have := gcmp_any en2 ed2 en ed W RE2.out.1 RE2.out.2 RE.out.1 RE.out.2 HVE2.out HVE.out
              rw [QE2.out, QE.out] at this
              exact this
            have HC2 : Hid (∀ W, Calls Try.prog 54 #[.agg #[.int .i64 en2, .int .i64 ed2], .agg #[.int .i64 xn, .int .i64 xd]] W (Ret (fun v _ => v = .tuple #[.int .i64 (cmpR E2 x), .int .i64 0]) W)) := fun W => by
              have := gcmp_any en2 ed2 xn xd W RE2.out.1 RE2.out.2 RX.out.1 RX.out.2 HVE2.out HVX.out
              rw [QE2.out, QX.out] at this
              exact this
            obtain ⟨cv, hcv⟩ : ∃ z, cmpR E2 E = z := ⟨_, rfl⟩
            rw [hcv] at HC1 gc
            clear h7 hi2 f1 f2 f3 hb7 hle hwi hsn hsd hkn hkd hen hed hcv s1
            go_upto_region 16 with fail
            refine wp_world (fun W => Blk W (w7.heap.size + 1) TF #[.int .i64 en2, .int .i64 ed2] ∧ Below w7.heap.size w7 W) (by exact ⟨Blk.new_ _ _ (by simp), by go_grown⟩) ?_
            rintro W8 ⟨e21, hb8⟩
            have E21 := Lib.hid e21
            have HB8 := Lib.hid (show Ext W6 W8 from bt HB7.out hb8)
            have k21 := e21.cells
            have k13 := (E13.out.below HB8.out).cells
            simp only [cellsAre, Nat.zero_add, Nat.reduceAdd, and_true] at k21 k13
            clear e21 hb8
            go_wp2_with fail
            refine (HC1.out _).mono ?_
            rintro e w9 ⟨v9, rfl, rfl, hb9⟩
            have k21 := (E21.out.below hb9).cells
            have HB9 := Lib.hid (show Ext W6 w9 from bt HB8.out hb9)
            have k8 := (E8.out.below HB9.out).cells
            simp only [cellsAre, Nat.zero_add, Nat.reduceAdd, and_true] at k21 k8
            clear hb9 k13
            go_wp2_with fail
            refine (HC2.out _).mono ?_
            rintro e w10 ⟨v10, rfl, rfl, hb10⟩
            have HB10 := Lib.hid (show Ext W6 w10 from bt HB9.out hb10)
            clear hb10 k21 k8
            by_cases hEx : E2 ≤ x
            · have gd := cmpR_leT hEx
              have HF2 := Lib.hid (HF.out.step (fi' := fi) HPC.out (fun h => ⟨h, HWI.out.1 hEx⟩))
              clear hEx
              cases fi
              · go_wp2
                go_roundw
                case rel => exact ⟨u + 1, m, false, by go_num, rfl, rfl, by go_num, hnm, by omega, HF2.out, HB10.out⟩
                case measure => first | (simp [intOf]; done) | (simp [intOf]; omega)
              · go_wp2
                go_roundw
                case rel => exact ⟨u + 1, m, true, by go_num, rfl, rfl, by go_num, hnm, by omega, HF2.out, HB10.out⟩
                case measure => first | (simp [intOf]; done) | (simp [intOf]; omega)
            · have gd := cmpR_leF hEx
              have HF2 : Hid (Few rs x ps false (u + 1) m) := fun h => absurd h (by decide)
              clear hEx
              cases fi
              · go_wp2
                go_roundw
                case rel => exact ⟨u + 1, m, false, by go_num, rfl, rfl, by go_num, hnm, by omega, HF2.out, HB10.out⟩
                case measure => first | (simp [intOf]; done) | (simp [intOf]; omega)
              · go_wp2
                go_roundw
                case rel => exact ⟨u + 1, m, false, by go_num, rfl, rfl, by go_num, hnm, by omega, HF2.out, HB10.out⟩
                case measure => first | (simp [intOf]; done) | (simp [intOf]; omega)
          · have g5 : decide ((2 : Int) ≤ (m : Int) - (t : Int)) = false := by simp; omega
            have HF2 := Lib.hid (HF.out.step (fi' := fi) (nx := m) HPC.out (fun h => ⟨h, Wi.two (by omega)⟩))
            go_wp2
            go_roundw
            case rel => exact ⟨u + 1, m, fi, by go_num, rfl, rfl, by go_num, hnm, by omega, HF2.out, HXJ.out⟩
            case measure => first | (simp [intOf]; done) | (simp [intOf]; omega)
      · have htn : t < m := by omega
        have hnm : m ≤ m := by omega
        by_cases hu1 : u < ne
        · have g2 : decide ((u : Int) < (ne : Int)) = true := by simp; omega
          have g2' : decide (u < ne) = true := by simp; omega
          have g3 : decide ((u : Int) < 20) = false := by simp; omega
          clear hu
          by_cases hbig : 2 ≤ m - t
          · have g5 : decide ((2 : Int) ≤ (m : Int) - (t : Int)) = true := by simp; omega
            have s1 := fun w => rd_slice_lh bb oo m c1 t m w (by omega) (by omega) (by omega)
            go_wp2_with fail
            refine (rleast_any _ _ _ (subR rs t (m - t)) _ ((HR6.out.below HXJ.out).sub (by omega) hnm)).mono ?_
            rintro e w7 ⟨v7, rfl, h7, hb7⟩
            obtain ⟨s2, k2, E2, hi2, f1, f2, f3, hv7⟩ := h7.ok (HV.out.sub (by have := HM.out; omega) hbig) (HSM.out.sub (by have := HM.out; omega))
            subst hv7
            have hle := IsLeast.sub_le HV.out (by have := HM.out; omega) hbig HI.out hi2
            have hwi := IsLeast.sub_wi HV.out (by have := HM.out; omega) hbig HX0.out hi2
            rw [show t + (m - t - 1) = m - 1 by omega] at hwi
            have HWI := Lib.hid hwi
            have gc := cmpR_leB (Rat.not_lt.2 hle)
            have HVE2 := Lib.hid (fit_vf f3)
            have RE2 := Lib.hid (fit_rng f3)
            have QE2 := Lib.hid (qv_self E2)
            have HB7 := Lib.hid (show Ext W6 w7 from bt HXJ.out hb7)
            obtain ⟨sn2, hsn⟩ : ∃ x, s2.num = x := ⟨_, rfl⟩
            obtain ⟨sd2, hsd⟩ : ∃ x : Int, (s2.den : Int) = x := ⟨_, rfl⟩
            obtain ⟨kn2, hkn⟩ : ∃ x, k2.num = x := ⟨_, rfl⟩
            obtain ⟨kd2, hkd⟩ : ∃ x : Int, (k2.den : Int) = x := ⟨_, rfl⟩
            obtain ⟨en2, hen⟩ : ∃ x, E2.num = x := ⟨_, rfl⟩
            obtain ⟨ed2, hed⟩ : ∃ x : Int, (E2.den : Int) = x := ⟨_, rfl⟩
            rw [hsn, hsd, hkn, hkd, hen, hed]
            rw [hen, hed] at RE2 HVE2 QE2
            have HC1 : Hid (∀ W, Calls Try.prog 54 #[.agg #[.int .i64 en2, .int .i64 ed2], .agg #[.int .i64 en, .int .i64 ed]] W (Ret (fun v _ => v = .tuple #[.int .i64 (cmpR E2 E), .int .i64 0]) W)) := fun W => by
              have := gcmp_any en2 ed2 en ed W RE2.out.1 RE2.out.2 RE.out.1 RE.out.2 HVE2.out HVE.out
              rw [QE2.out, QE.out] at this
              exact this
            have HC2 : Hid (∀ W, Calls Try.prog 54 #[.agg #[.int .i64 en2, .int .i64 ed2], .agg #[.int .i64 xn, .int .i64 xd]] W (Ret (fun v _ => v = .tuple #[.int .i64 (cmpR E2 x), .int .i64 0]) W)) := fun W => by
              have := gcmp_any en2 ed2 xn xd W RE2.out.1 RE2.out.2 RX.out.1 RX.out.2 HVE2.out HVX.out
              rw [QE2.out, QX.out] at this
              exact this
            obtain ⟨cv, hcv⟩ : ∃ z, cmpR E2 E = z := ⟨_, rfl⟩
            rw [hcv] at HC1 gc
            clear h7 hi2 f1 f2 f3 hb7 hle hwi hsn hsd hkn hkd hen hed hcv s1
            go_upto_region 16 with fail
            refine wp_world (fun W => Blk W (w7.heap.size + 1) TF #[.int .i64 en2, .int .i64 ed2] ∧ Below w7.heap.size w7 W) (by exact ⟨Blk.new_ _ _ (by simp), by go_grown⟩) ?_
            rintro W8 ⟨e21, hb8⟩
            have E21 := Lib.hid e21
            have HB8 := Lib.hid (show Ext W6 W8 from bt HB7.out hb8)
            have k21 := e21.cells
            have k13 := (E13.out.below HB8.out).cells
            simp only [cellsAre, Nat.zero_add, Nat.reduceAdd, and_true] at k21 k13
            clear e21 hb8
            go_wp2_with fail
            refine (HC1.out _).mono ?_
            rintro e w9 ⟨v9, rfl, rfl, hb9⟩
            have k21 := (E21.out.below hb9).cells
            have HB9 := Lib.hid (show Ext W6 w9 from bt HB8.out hb9)
            have k8 := (E8.out.below HB9.out).cells
            simp only [cellsAre, Nat.zero_add, Nat.reduceAdd, and_true] at k21 k8
            clear hb9 k13
            go_wp2_with fail
            refine (HC2.out _).mono ?_
            rintro e w10 ⟨v10, rfl, rfl, hb10⟩
            have HB10 := Lib.hid (show Ext W6 w10 from bt HB9.out hb10)
            clear hb10 k21 k8
            by_cases hEx : E2 ≤ x
            · have gd := cmpR_leT hEx
              have HF2 := Lib.hid (HF.out.step (fi' := fi) HPC.out (fun h => ⟨h, HWI.out.1 hEx⟩))
              clear hEx
              cases fi
              · go_wp2
                go_roundw
                case rel => exact ⟨u + 1, m, false, by go_num, rfl, rfl, by go_num, hnm, by omega, HF2.out, HB10.out⟩
                case measure => first | (simp [intOf]; done) | (simp [intOf]; omega)
              · go_wp2
                go_roundw
                case rel => exact ⟨u + 1, m, true, by go_num, rfl, rfl, by go_num, hnm, by omega, HF2.out, HB10.out⟩
                case measure => first | (simp [intOf]; done) | (simp [intOf]; omega)
            · have gd := cmpR_leF hEx
              have HF2 : Hid (Few rs x ps false (u + 1) m) := fun h => absurd h (by decide)
              clear hEx
              cases fi
              · go_wp2
                go_roundw
                case rel => exact ⟨u + 1, m, false, by go_num, rfl, rfl, by go_num, hnm, by omega, HF2.out, HB10.out⟩
                case measure => first | (simp [intOf]; done) | (simp [intOf]; omega)
              · go_wp2
                go_roundw
                case rel => exact ⟨u + 1, m, false, by go_num, rfl, rfl, by go_num, hnm, by omega, HF2.out, HB10.out⟩
                case measure => first | (simp [intOf]; done) | (simp [intOf]; omega)
          · have g5 : decide ((2 : Int) ≤ (m : Int) - (t : Int)) = false := by simp; omega
            have HF2 := Lib.hid (HF.out.step (fi' := fi) (nx := m) HPC.out (fun h => ⟨h, Wi.two (by omega)⟩))
            go_wp2
            go_roundw
            case rel => exact ⟨u + 1, m, fi, by go_num, rfl, rfl, by go_num, hnm, by omega, HF2.out, HXJ.out⟩
            case measure => first | (simp [intOf]; done) | (simp [intOf]; omega)
        · have g2 : decide ((u : Int) < (ne : Int)) = false := by simp; omega
          have g2' : decide (u < ne) = false := by simp; omega
          clear hu
          by_cases hbig : 2 ≤ m - t
          · have g5 : decide ((2 : Int) ≤ (m : Int) - (t : Int)) = true := by simp; omega
            have s1 := fun w => rd_slice_lh bb oo m c1 t m w (by omega) (by omega) (by omega)
            go_wp2_with fail
            refine (rleast_any _ _ _ (subR rs t (m - t)) _ ((HR6.out.below HXJ.out).sub (by omega) hnm)).mono ?_
            rintro e w7 ⟨v7, rfl, h7, hb7⟩
            obtain ⟨s2, k2, E2, hi2, f1, f2, f3, hv7⟩ := h7.ok (HV.out.sub (by have := HM.out; omega) hbig) (HSM.out.sub (by have := HM.out; omega))
            subst hv7
            have hle := IsLeast.sub_le HV.out (by have := HM.out; omega) hbig HI.out hi2
            have hwi := IsLeast.sub_wi HV.out (by have := HM.out; omega) hbig HX0.out hi2
            rw [show t + (m - t - 1) = m - 1 by omega] at hwi
            have HWI := Lib.hid hwi
            have gc := cmpR_leB (Rat.not_lt.2 hle)
            have HVE2 := Lib.hid (fit_vf f3)
            have RE2 := Lib.hid (fit_rng f3)
            have QE2 := Lib.hid (qv_self E2)
            have HB7 := Lib.hid (show Ext W6 w7 from bt HXJ.out hb7)
            obtain ⟨sn2, hsn⟩ : ∃ x, s2.num = x := ⟨_, rfl⟩
            obtain ⟨sd2, hsd⟩ : ∃ x : Int, (s2.den : Int) = x := ⟨_, rfl⟩
            obtain ⟨kn2, hkn⟩ : ∃ x, k2.num = x := ⟨_, rfl⟩
            obtain ⟨kd2, hkd⟩ : ∃ x : Int, (k2.den : Int) = x := ⟨_, rfl⟩
            obtain ⟨en2, hen⟩ : ∃ x, E2.num = x := ⟨_, rfl⟩
            obtain ⟨ed2, hed⟩ : ∃ x : Int, (E2.den : Int) = x := ⟨_, rfl⟩
            rw [hsn, hsd, hkn, hkd, hen, hed]
            rw [hen, hed] at RE2 HVE2 QE2
            have HC1 : Hid (∀ W, Calls Try.prog 54 #[.agg #[.int .i64 en2, .int .i64 ed2], .agg #[.int .i64 en, .int .i64 ed]] W (Ret (fun v _ => v = .tuple #[.int .i64 (cmpR E2 E), .int .i64 0]) W)) := fun W => by
              have := gcmp_any en2 ed2 en ed W RE2.out.1 RE2.out.2 RE.out.1 RE.out.2 HVE2.out HVE.out
              rw [QE2.out, QE.out] at this
              exact this
            have HC2 : Hid (∀ W, Calls Try.prog 54 #[.agg #[.int .i64 en2, .int .i64 ed2], .agg #[.int .i64 xn, .int .i64 xd]] W (Ret (fun v _ => v = .tuple #[.int .i64 (cmpR E2 x), .int .i64 0]) W)) := fun W => by
              have := gcmp_any en2 ed2 xn xd W RE2.out.1 RE2.out.2 RX.out.1 RX.out.2 HVE2.out HVX.out
              rw [QE2.out, QX.out] at this
              exact this
            obtain ⟨cv, hcv⟩ : ∃ z, cmpR E2 E = z := ⟨_, rfl⟩
            rw [hcv] at HC1 gc
            clear h7 hi2 f1 f2 f3 hb7 hle hwi hsn hsd hkn hkd hen hed hcv s1
            go_upto_region 16 with fail
            refine wp_world (fun W => Blk W (w7.heap.size + 1) TF #[.int .i64 en2, .int .i64 ed2] ∧ Below w7.heap.size w7 W) (by exact ⟨Blk.new_ _ _ (by simp), by go_grown⟩) ?_
            rintro W8 ⟨e21, hb8⟩
            have E21 := Lib.hid e21
            have HB8 := Lib.hid (show Ext W6 W8 from bt HB7.out hb8)
            have k21 := e21.cells
            have k13 := (E13.out.below HB8.out).cells
            simp only [cellsAre, Nat.zero_add, Nat.reduceAdd, and_true] at k21 k13
            clear e21 hb8
            go_wp2_with fail
            refine (HC1.out _).mono ?_
            rintro e w9 ⟨v9, rfl, rfl, hb9⟩
            have k21 := (E21.out.below hb9).cells
            have HB9 := Lib.hid (show Ext W6 w9 from bt HB8.out hb9)
            have k8 := (E8.out.below HB9.out).cells
            simp only [cellsAre, Nat.zero_add, Nat.reduceAdd, and_true] at k21 k8
            clear hb9 k13
            go_wp2_with fail
            refine (HC2.out _).mono ?_
            rintro e w10 ⟨v10, rfl, rfl, hb10⟩
            have HB10 := Lib.hid (show Ext W6 w10 from bt HB9.out hb10)
            clear hb10 k21 k8
            by_cases hEx : E2 ≤ x
            · have gd := cmpR_leT hEx
              have HF2 := Lib.hid (HF.out.step (fi' := fi) HPC.out (fun h => ⟨h, HWI.out.1 hEx⟩))
              clear hEx
              cases fi
              · go_wp2
                go_roundw
                case rel => exact ⟨u + 1, m, false, by go_num, rfl, rfl, by go_num, hnm, by omega, HF2.out, HB10.out⟩
                case measure => first | (simp [intOf]; done) | (simp [intOf]; omega)
              · go_wp2
                go_roundw
                case rel => exact ⟨u + 1, m, true, by go_num, rfl, rfl, by go_num, hnm, by omega, HF2.out, HB10.out⟩
                case measure => first | (simp [intOf]; done) | (simp [intOf]; omega)
            · have gd := cmpR_leF hEx
              have HF2 : Hid (Few rs x ps false (u + 1) m) := fun h => absurd h (by decide)
              clear hEx
              cases fi
              · go_wp2
                go_roundw
                case rel => exact ⟨u + 1, m, false, by go_num, rfl, rfl, by go_num, hnm, by omega, HF2.out, HB10.out⟩
                case measure => first | (simp [intOf]; done) | (simp [intOf]; omega)
              · go_wp2
                go_roundw
                case rel => exact ⟨u + 1, m, false, by go_num, rfl, rfl, by go_num, hnm, by omega, HF2.out, HB10.out⟩
                case measure => first | (simp [intOf]; done) | (simp [intOf]; omega)
          · have g5 : decide ((2 : Int) ≤ (m : Int) - (t : Int)) = false := by simp; omega
            have HF2 := Lib.hid (HF.out.step (fi' := fi) (nx := m) HPC.out (fun h => ⟨h, Wi.two (by omega)⟩))
            go_wp2
            go_roundw
            case rel => exact ⟨u + 1, m, fi, by go_num, rfl, rfl, by go_num, hnm, by omega, HF2.out, HXJ.out⟩
            case measure => first | (simp [intOf]; done) | (simp [intOf]; omega)
    · have : t = m := by omega
      subst this
      have g1 : decide ((t : Int) < (t : Int)) = false := by simp
      go_wp2_with fail
      refine (gnear_any _).mono ?_
      rintro e w7 ⟨v7, rfl, rfl, hb7⟩
      have HB7 := Lib.hid (bt HBT.out (bt HXJ.out hb7))
      clear hb7
      cases fi
      · go_wp2
        go_returns
        exact ⟨_, rfl, rfl, HB7.out.alloc HB7.out.size _⟩
      · have hfl : n4 ≤ u := by rw [← HN4.out]; exact HPC.out.few (fun hlt => HF.out rfl hlt)
        have g4 : decide ((n4 : Int) ≤ (u : Int)) = true := by simp; omega
        have g4' : decide (n4 ≤ u) = true := by simp; omega
        go_wp2
        go_returns
        exact ⟨_, rfl, rfl, HB7.out.alloc HB7.out.size _⟩
end Go.Proofs.Tb
