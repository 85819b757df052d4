/- Contracts of package rate: calm, asked, Longest, Pieces. -/
import Derived.Test.YtcbffkkcldnegaaRate4
import Derived.Test.YtcbffkkcldnegaaRef1
import Derived.Test.YtcbffkkcldnegaaRun
import Derived.Test.YtcbffkkcldnegaaRateM
import Derived.Test.YtcbffkkcldnegaaLaw1
set_option linter.unusedVariables false
set_option linter.unusedSimpArgs false
namespace Go.Proofs.Tb
open Go.RowKit
attribute [local go_sem] cell_set_same

/-- The readings from number a on, n of them. -/
def subR (rs : List Rdg) (a n : Nat) : List Rdg := (rs.drop a).take n
theorem subR_len {rs : List Rdg} {a n : Nat} (h : a + n ≤ rs.length) : (subR rs a n).length = n := by unfold subR; simp; omega
theorem subR_get {rs : List Rdg} {a n j : Nat} (hj : j < n) : (subR rs a n).getD j (0, 0) = rs.getD (a + j) (0, 0) := by
  unfold subR List.getD
  rw [List.getElem?_take, if_pos hj, List.getElem?_drop]
theorem subR_tq {rs : List Rdg} {a n j : Nat} (hj : j < n) : tq (subR rs a n) j = tq rs (a + j) := by unfold tq tm; rw [subR_get hj]
theorem subR_yq {rs : List Rdg} {a n j : Nat} (hj : j < n) : yq (subR rs a n) j = yq rs (a + j) := by unfold yq ofs; rw [subR_get hj]
theorem Rd.sub {w : World} {b o n c : Nat} {rs : List Rdg} (h : Rd w (some ⟨b, o, none⟩) n c rs) {lo hi : Nat} (h1 : lo ≤ hi) (h2 : hi ≤ n) : Rd w (some ⟨b, o + lo * 2, none⟩) (hi - lo) (c - lo) (subR rs lo (hi - lo)) := by
  have hl := h.len
  have hle := h.le
  have hc := h.cap
  refine ⟨subR_len (by omega), by omega, by omega, fun h0 => ⟨b, o + lo * 2, rfl, fun j hj => ?_⟩, fun x hx => h.rng x (List.mem_of_mem_drop (List.mem_of_mem_take hx))⟩
  obtain ⟨b', o', he, hcell⟩ := h.at_ (by omega)
  injection he with he
  injection he with e1 e2
  subst e1 e2
  rw [subR_get hj]
  have := hcell (lo + j) (by omega)
  rw [show o + lo * 2 + j * 2 = o + (lo + j) * 2 by omega]
  exact this
set_option maxRecDepth 100000 in
theorem rd_slice_lh (b o n c lo hi : Nat) (w : World) (h1 : lo ≤ hi) (h2 : hi ≤ c) (h3 : lo < c) : (Instr.sliceAt TRS (.slice (some ⟨b, o, none⟩) n c) (some (.int .i64 (lo : Int))) (some (.int .i64 (hi : Int))) none).run Try.prog w = .ok (.slice (some ⟨b, o + lo * 2, none⟩) (hi - lo) (c - lo)) w := by
  obtain ⟨i0, hii, hz0, hz1, hz2⟩ := info_parts rdg_info
  rw [run_sliceAt_slice _ _ _ _ _ _ Try.underlying22, run_slice_lh _ _ _ _ _ Try.underlying22 .i64 .i64 (lo : Int) (hi : Int) (by omega) (by omega) (by omega)]
  have hi' : Try.prog.info? (Try.prog.elem TRS) = some i0 := hii
  simp [sizeOf, typeInfo, hi', Result.andThen, hz1]
  unfold sliced
  rw [if_neg (by omega)]
  simp [Addr.add]

/-- The halves of bends, and the errors that a line bears. -/
theorem half_tri {rs : List Rdg} {M : Rat} (hv : Vld rs) {i j k : Nat} (hij : i < j) (hjk : j < k) (hk : k < rs.length) : rab (qv (bo rs i j k) (2 * br rs i k)) ≤ M ↔ TriOk (tq rs) (yq rs) M i j k := by
  have hb := (hv.br_bd (show i < k by omega) hk).1
  have hrp : (0 : Rat) < (br rs i k : Rat) := cast_pos hb
  have hG : qv (bo rs i j k) (2 * br rs i k) * (2 * (br rs i k : Rat)) = (bo rs i j k : Rat) := by
    rw [qv_div]
    have e : ((2 * br rs i k : Int) : Rat) = 2 * (br rs i k : Rat) := by rw [Rat.intCast_mul]; rfl
    rw [e]
    exact Rat.div_mul_cancel (by rw [← e]; exact cast_ne (by omega))
  have hbr : tq rs k - tq rs i = (br rs i k : Rat) := by unfold tq br; rw [Rat.intCast_sub]
  unfold TriOk
  rw [bd3_bo, hbr, ← hG]
  generalize qv (bo rs i j k) (2 * br rs i k) = g
  generalize (br rs i k : Rat) = R at *
  constructor
  · intro h
    unfold rab at h
    have h1 : -M ≤ g ∧ g ≤ M := by split at h <;> constructor <;> grind
    have p1 : 0 ≤ (g + M) * (2 * R) := Rat.mul_nonneg (by grind) (by grind)
    have p2 : 0 ≤ (M - g) * (2 * R) := Rat.mul_nonneg (by grind) (by grind)
    constructor <;> grind
  · rintro ⟨h1, h2⟩
    have q1 : -M ≤ g := by
      rcases Rat.le_total (a := -M) (b := g) with h | h
      · exact h
      · by_cases he : g = -M
        · rw [he]; exact Rat.le_refl
        · exfalso
          have : 0 < (-M - g) * (2 * R) := Rat.mul_pos (by grind) (by grind)
          grind
    have q2 : g ≤ M := by
      rcases Rat.le_total (a := g) (b := M) with h | h
      · exact h
      · by_cases he : g = M
        · rw [he]; exact Rat.le_refl
        · exfalso
          have : 0 < (g - M) * (2 * R) := Rat.mul_pos (by grind) (by grind)
          grind
    unfold rab
    split <;> grind

/-- Does the last one of the readings from a to k bear any two ahead of it? -/
def Clm (rs : List Rdg) (M : Rat) (a k : Nat) : Prop := ∀ i j, a ≤ i → i < j → j < k → TriOk (tq rs) (yq rs) M i j k
open Classical in
noncomputable def clB (rs : List Rdg) (M : Rat) (a k : Nat) : Bool := decide (Clm rs M a k)
theorem clB_t {rs : List Rdg} {M : Rat} {a k : Nat} (h : Clm rs M a k) : clB rs M a k = true := by unfold clB; simpa using h
theorem clB_f {rs : List Rdg} {M : Rat} {a k : Nat} (h : ¬ Clm rs M a k) : clB rs M a k = false := by unfold clB; simpa using h
theorem cmpR_gtB {x y : Rat} (h : y < x) : decide (0 < cmpR x y) = true := by simpa using cmpR_gt.2 h
theorem cmpR_leB {x y : Rat} (h : ¬ y < x) : decide (0 < cmpR x y) = false := by
  have : ¬ 0 < cmpR x y := fun h' => h (cmpR_gt.1 h')
  simpa using this

theorem vhalf_any (off run : Int) (w : World) (h1 : -8000000000000 ≤ off ∧ off ≤ 8000000000000) (h2 : 0 < run ∧ run ≤ 2000000) :
    Calls Try.prog 76 #[.agg #[.int .i64 off, .int .i64 run]] w (Ret (fun v w' => WX w' v (qv off (2 * run)) 2) w) := by
  refine (rhalf_any off run w (by omega) (by omega) (by omega) (by omega) (by omega)).mono ?_
  rintro e w' ⟨v, he, hv, hb⟩
  exact ⟨v, he, ⟨_, _, hv, qv_rn (by omega), by rw [sz_rn]; exact sz_small off (by omega) (by omega), by rw [sz_rd]; exact sz_small (2 * run) (by omega) (by omega)⟩, hb⟩

set_option maxHeartbeats 6400000 in
set_option maxRecDepth 100000 in
theorem rcalm_any (A : Option Addr) (n c : Nat) (rs : List Rdg) (a : Nat) (m : Value) (M : Rat) (s : Nat) (w : World) (h : Rd w A n c (subR rs a n)) (hv : Vld rs) (hn1 : 1 ≤ n) (han : a + n ≤ rs.length) (hm : WX w m M s) (hs : s ≤ 1000000) :
    Calls Try.prog 90 #[.slice A n c, m] w (Ret (fun v _ => v = .bool (clB rs M a (a + (n - 1)))) w) := by
  have hn := h.le
  have hc := h.cap
  have hn64 : n ≤ 64 := by have := hv.2.1; omega
  have H := Lib.hid h
  have HV := Lib.hid hv
  have HAN := Lib.hid han
  obtain ⟨b0, A0, n0, c0, b1, A1, n1, c1, rfl⟩ := hm.form
  have HM := Lib.hid hm
  have HS := Lib.hid hs
  clear h hv han hm hs
  go_enter Try.func90, Try.ntmps90
  go_wp2_with fail
  refine wp_world (fun W => Blk W w.heap.size TR #[.bool b0, .slice A0 n0 c0, .bool b1, .slice A1 n1 c1] ∧ Below w.heap.size w W) (by exact ⟨Blk.new_ _ _ rfl, by go_grown⟩) ?_
  rintro W0 ⟨e3, hbw⟩
  have E3 := Lib.hid e3
  have HB0 := Lib.hid hbw
  clear e3 hbw
  go_loopw [12] (fun x wr => ∃ j : Nat, x = .int .i64 j ∧ j ≤ n - 1 ∧ (∀ i' j', a ≤ i' → i' < j' → j' < a + j → TriOk (tq rs) (yq rs) M i' j' (a + (n - 1))) ∧ Ext W0 wr) (fun x _ => n - 1 - (intOf x).toNat)
  case atStart => exact ⟨0, rfl, Nat.zero_le _, fun i' j' h1 h2 h3 => absurd h3 (by omega), Ext.refl _⟩
  case round =>
    obtain ⟨j, rfl, hj, hall, hx⟩ := hrel
    obtain ⟨wi, rfl⟩ : ∃ wo : World, wo = wr := ⟨_, rfl⟩
    have HA := Lib.hid hall
    have HX := Lib.hid hx
    clear hall hx
    by_cases hjn : j < n - 1
    · have g1 : decide ((j : Int) < (n : Int) - 1) = true := by simp; omega
      go_wp2
      go_loopw [16] (fun x wr => ∃ i : Nat, x = .int .i64 i ∧ i ≤ j ∧ (∀ i', a ≤ i' → i' < a + i → TriOk (tq rs) (yq rs) M i' (a + j) (a + (n - 1))) ∧ Ext W0 wr) (fun x _ => j - (intOf x).toNat)
      case atStart => exact ⟨0, rfl, Nat.zero_le _, fun i' h1 h2 => absurd h2 (by omega), HX.out⟩
      case round =>
        clear HX
        obtain ⟨i, rfl, hi, hall, hx⟩ := hrel
        obtain ⟨wj, rfl⟩ : ∃ wo : World, wo = wr := ⟨_, rfl⟩
        have HI := Lib.hid hall
        have HX := Lib.hid hx
        clear hall hx
        by_cases hij : i < j
        · have g2 : decide ((i : Int) < (j : Int)) = true := by simp; omega
          obtain ⟨t, o, rfl, hcell⟩ := (H.out.below (bt HB0.out HX.out)).at_ (by omega)
          obtain ⟨a1, a2⟩ := hcell i (by omega)
          obtain ⟨a3, a4⟩ := hcell j (by omega)
          obtain ⟨a5, a6⟩ := hcell (n - 1) (by omega)
          rw [subR_get (by omega)] at a1 a2 a3 a4 a5 a6
          have oi := (HV.out.2.2 (a + i) (by have := HAN.out; omega))
          have oj := (HV.out.2.2 (a + j) (by have := HAN.out; omega))
          have ok := (HV.out.2.2 (a + (n - 1)) (by have := HAN.out; omega))
          have xb := HV.out.bo_bd (i := a + i) (j := a + j) (k := a + (n - 1)) (by have := HAN.out; omega) (by have := HAN.out; omega) (by have := HAN.out; omega)
          have yb := HV.out.br_bd (i := a + i) (k := a + (n - 1)) (by omega) (by have := HAN.out; omega)
          have HBT : Hid (∀ W, Calls Try.prog 109 #[.agg #[.int .i64 (rs.getD (a + i) (0, 0)).1, .int .i64 (rs.getD (a + i) (0, 0)).2], .agg #[.int .i64 (rs.getD (a + j) (0, 0)).1, .int .i64 (rs.getD (a + j) (0, 0)).2], .agg #[.int .i64 (rs.getD (a + (n - 1)) (0, 0)).1, .int .i64 (rs.getD (a + (n - 1)) (0, 0)).2]] W (Ret (fun v _ => v = .agg #[.int .i64 (bo rs (a + i) (a + j) (a + (n - 1))), .int .i64 (br rs (a + i) (a + (n - 1)))]) W)) := fun W =>
            rbent_any _ _ _ _ _ _ W ⟨oi.1, oi.2.1, oi.2.2.1, oi.2.2.2.1⟩ ⟨oj.1, oj.2.1, oj.2.2.1, oj.2.2.2.1⟩ ⟨ok.1, ok.2.1, ok.2.2.1, ok.2.2.2.1⟩
          have HT : Hid (rab (qv (bo rs (a + i) (a + j) (a + (n - 1))) (2 * br rs (a + i) (a + (n - 1)))) ≤ M ↔ TriOk (tq rs) (yq rs) M (a + i) (a + j) (a + (n - 1))) := half_tri HV.out (by omega) (by omega) (by have := HAN.out; omega)
          clear hcell oi oj ok
          obtain ⟨ti, eti⟩ : ∃ x, (rs.getD (a + i) (0, 0)).1 = x := ⟨_, rfl⟩
          obtain ⟨yi, eyi⟩ : ∃ x, (rs.getD (a + i) (0, 0)).2 = x := ⟨_, rfl⟩
          obtain ⟨tj, etj⟩ : ∃ x, (rs.getD (a + j) (0, 0)).1 = x := ⟨_, rfl⟩
          obtain ⟨yj, eyj⟩ : ∃ x, (rs.getD (a + j) (0, 0)).2 = x := ⟨_, rfl⟩
          obtain ⟨tk, etk⟩ : ∃ x, (rs.getD (a + (n - 1)) (0, 0)).1 = x := ⟨_, rfl⟩
          obtain ⟨yk, eyk⟩ : ∃ x, (rs.getD (a + (n - 1)) (0, 0)).2 = x := ⟨_, rfl⟩
          rw [eti, eyi, etj, eyj, etk, eyk] at HBT
          rw [eti] at a1
          rw [eyi] at a2
          rw [etj] at a3
          rw [eyj] at a4
          rw [etk] at a5
          rw [eyk] at a6
          clear eti eyi etj eyj etk eyk
          obtain ⟨off, eoff⟩ : ∃ x, bo rs (a + i) (a + j) (a + (n - 1)) = x := ⟨_, rfl⟩
          obtain ⟨run, erun⟩ : ∃ x, br rs (a + i) (a + (n - 1)) = x := ⟨_, rfl⟩
          rw [eoff, erun] at HBT HT
          rw [eoff] at xb
          rw [erun] at yb
          have XB := Lib.hid xb
          have YB := Lib.hid yb
          clear eoff erun xb yb
          have rb : (i : Int) < (n : Int) := by omega
          have rc : (j : Int) < (n : Int) := by omega
          have q1 : ((n : Int) - 1).toNat = n - 1 := by omega
          have q2 : (0 : Int) ≤ (n : Int) - 1 := by omega
          have q3 : (n : Int) - 1 < (n : Int) := by omega
          have q4 : (1 : Int) ≤ (n : Int) := by omega
          have kr := fun w' (hh : Ext wj w') => (show (w'.cell? ⟨t, o + i * 2, none⟩ = some (.int .i64 ti) ∧ w'.cell? ⟨t, o + i * 2 + 1, none⟩ = some (.int .i64 yi)) ∧ (w'.cell? ⟨t, o + j * 2, none⟩ = some (.int .i64 tj) ∧ w'.cell? ⟨t, o + j * 2 + 1, none⟩ = some (.int .i64 yj)) ∧ (w'.cell? ⟨t, o + (n - 1) * 2, none⟩ = some (.int .i64 tk) ∧ w'.cell? ⟨t, o + (n - 1) * 2 + 1, none⟩ = some (.int .i64 yk)) from
            ⟨⟨Ext.cell hh a1, Ext.cell hh a2⟩, ⟨Ext.cell hh a3, Ext.cell hh a4⟩, ⟨Ext.cell hh a5, Ext.cell hh a6⟩⟩)
          have k3 := fun w' (hh : Ext wj w') => ((E3.out.below HX.out).below hh).cells
          simp only [cellsAre, Nat.zero_add, Nat.reduceAdd, and_true] at k3
          have hst : Ext wj wj.drew := Ext.drew _
          clear a1 a2 a3 a4 a5 a6
          go_upto_region 8 with fail
          refine wp_region_adv 16 [] [(0, true, some 19, none), (1, true, some 20, none), (2, true, some 21, none), (3, true, some 22, none), (4, true, some 23, none), (5, true, some 24, none), (6, true, some 25, none), (7, true, some 26, none), (8, true, some 27, none), (9, true, some 28, none), (10, true, some 29, none), (11, true, some 30, none), (15, true, some 34, none), (12, false, some 31, none), (13, false, some 32, none), (14, false, some 33, none)] (by kernel_rfl) (by kernel_rfl) (by kernel_rfl) (by intro it hit; (repeat (rcases List.mem_cons.1 hit with rfl | hit; (focus (intro o ho ev w; injection ho with ho; subst ho; kernel_rfl)))); cases hit) (fun _ _ _ _ _ => ⟨fun h => h, fun h => h⟩) hst ?_
          repeat (first | (refine wpSeq_pure (v := ?_) rfl ?_ ?_; rotate_left 1; (focus (intro wq_ hSq_; (try dsimp only at hSq_); go_simp; (try with_reducible rfl); done)); (try simp only [Act.put, List.setIfInBounds_toArray, List.set_cons_zero, List.set_cons_succ])) | (refine wpSeq_pureG (v := ?_) rfl rfl ?_ ?_; rotate_left 1; (focus (intro wq_ hSq_; (try dsimp only at hSq_); go_simp; (try with_reducible rfl); done)); (try simp only [Act.put, List.setIfInBounds_toArray, List.set_cons_zero, List.set_cons_succ])) | (refine wpSeq_off rfl rfl ?_; (try simp only [Act.put, List.setIfInBounds_toArray, List.set_cons_zero, List.set_cons_succ])))
          first | refine wpSeq_call rfl (fun u1 g1' s1 K hK => ?_) | refine wpSeq_callG rfl rfl (fun u1 g1' s1 K hK => ?_)
          go_simp
          refine (HBT.out u1).mono ?_
          rintro e y1 ⟨z1, rfl, rfl, b1'⟩
          (try go_wp2_with fail)
          refine hK.out _ _ b1' ?_
          clear hK K
          (try simp only [Act.put, List.setIfInBounds_toArray, List.set_cons_zero, List.set_cons_succ])
          repeat (first | (refine wpSeq_pure (v := ?_) rfl ?_ ?_; rotate_left 1; (focus (intro wq_ hSq_; (try dsimp only at hSq_); go_simp; (try with_reducible rfl); done)); (try simp only [Act.put, List.setIfInBounds_toArray, List.set_cons_zero, List.set_cons_succ])) | (refine wpSeq_pureG (v := ?_) rfl rfl ?_ ?_; rotate_left 1; (focus (intro wq_ hSq_; (try dsimp only at hSq_); go_simp; (try with_reducible rfl); done)); (try simp only [Act.put, List.setIfInBounds_toArray, List.set_cons_zero, List.set_cons_succ])) | (refine wpSeq_off rfl rfl ?_; (try simp only [Act.put, List.setIfInBounds_toArray, List.set_cons_zero, List.set_cons_succ])))
          first | refine wpSeq_call rfl (fun u2 g2' s2 K hK => ?_) | refine wpSeq_callG rfl rfl (fun u2 g2' s2 K hK => ?_)
          go_simp
          refine (vhalf_any off run u2 XB.out YB.out).mono ?_
          rintro e y2 ⟨z2, rfl, x2, b2'⟩
          obtain ⟨d2, D2, p2, e2, d2', D2', p2', e2', rfl⟩ := x2.form
          (try go_wp2_with fail)
          refine hK.out _ _ b2' ?_
          clear hK K
          (try simp only [Act.put, List.setIfInBounds_toArray, List.set_cons_zero, List.set_cons_succ])
          repeat (first | (refine wpSeq_pure (v := ?_) rfl ?_ ?_; rotate_left 1; (focus (intro wq_ hSq_; (try dsimp only at hSq_); go_simp; (try with_reducible rfl); done)); (try simp only [Act.put, List.setIfInBounds_toArray, List.set_cons_zero, List.set_cons_succ])) | (refine wpSeq_pureG (v := ?_) rfl rfl ?_ ?_; rotate_left 1; (focus (intro wq_ hSq_; (try dsimp only at hSq_); go_simp; (try with_reducible rfl); done)); (try simp only [Act.put, List.setIfInBounds_toArray, List.set_cons_zero, List.set_cons_succ])) | (refine wpSeq_off rfl rfl ?_; (try simp only [Act.put, List.setIfInBounds_toArray, List.set_cons_zero, List.set_cons_succ])))
          first | refine wpSeq_call rfl (fun u3 g3' s3 K hK => ?_) | refine wpSeq_callG rfl rfl (fun u3 g3' s3 K hK => ?_)
          go_simp
          refine (vabs_any (x2.below g3')).mono ?_
          rintro e y3 ⟨z3, rfl, x3, b3'⟩
          obtain ⟨d3, D3, p3, e3, d3', D3', p3', e3', rfl⟩ := x3.form
          (try go_wp2_with fail)
          refine hK.out _ _ b3' ?_
          clear hK K
          (try simp only [Act.put, List.setIfInBounds_toArray, List.set_cons_zero, List.set_cons_succ])
          repeat (first | (refine wpSeq_pure (v := ?_) rfl ?_ ?_; rotate_left 1; (focus (intro wq_ hSq_; (try dsimp only at hSq_); go_simp; (try with_reducible rfl); done)); (try simp only [Act.put, List.setIfInBounds_toArray, List.set_cons_zero, List.set_cons_succ])) | (refine wpSeq_pureG (v := ?_) rfl rfl ?_ ?_; rotate_left 1; (focus (intro wq_ hSq_; (try dsimp only at hSq_); go_simp; (try with_reducible rfl); done)); (try simp only [Act.put, List.setIfInBounds_toArray, List.set_cons_zero, List.set_cons_succ])) | (refine wpSeq_off rfl rfl ?_; (try simp only [Act.put, List.setIfInBounds_toArray, List.set_cons_zero, List.set_cons_succ])))
          intro wz gz sz_
          (try simp only [endJ, List.drop_succ_cons, List.drop_zero])
          have X3 := Lib.hid (x3.below gz)
          have HZ := Lib.hid (show Ext W0 wz from bt HX.out sz_)
          clear kr k3 hst g1' s1 b1' g2' s2 b2' g3' s3 b3' x2 x3 gz sz_ q1 q2 q3
          go_wp2_with fail
          refine (vcmp_any X3.out (HM.out.below (bt HB0.out HZ.out)) (by have := HS.out; omega)).mono ?_
          rintro e w5 ⟨v5, rfl, rfl, hb5⟩
          have HB5 := Lib.hid (show Ext W0 w5 from bt HZ.out hb5)
          clear hb5
          by_cases hgt : M < rab (qv off (2 * run))
          · have g3 := cmpR_gtB hgt
            have HF := Lib.hid (clB_f (rs := rs) (M := M) (a := a) (k := a + (n - 1)) (fun hc => by
              exact Rat.not_lt.2 (HT.out.2 (hc (a + i) (a + j) (by omega) (by omega) (by omega))) hgt))
            clear hgt
            go_wp2
            go_returns
            exact ⟨_, rfl, by rw [HF.out]; rfl, bt HB0.out HB5.out⟩
          · have g3 := cmpR_leB hgt
            have HN := Lib.hid (HT.out.1 (Rat.not_lt.1 hgt))
            clear hgt
            go_wp2
            go_roundw
            case rel => exact ⟨i + 1, by go_num, by omega, fun i' h1 h2 => by rcases Nat.lt_or_eq_of_le (Nat.le_of_lt_succ h2) with h3 | h3; exact HI.out i' h1 h3; rw [h3]; exact HN.out, HB5.out⟩
            case measure => first | (simp [intOf]; done) | (simp [intOf]; omega)
        · have : i = j := by omega
          subst this
          have g2 : decide ((i : Int) < (i : Int)) = false := by simp
          go_wp2
          go_roundw
          case rel => exact ⟨i + 1, by go_num, by omega, fun i' j' h1 h2 h3 => by rcases Nat.lt_or_eq_of_le (Nat.le_of_lt_succ h3) with h4 | h4; exact HA.out i' j' h1 h2 h4; rw [h4] at h2 ⊢; exact HI.out i' h1 h2, HX.out⟩
          case measure => first | (simp [intOf]; done) | (simp [intOf]; omega)
    · have : j = n - 1 := by omega
      subst this
      have g1 : decide (((n - 1 : Nat) : Int) < (n : Int) - 1) = false := by simp; omega
      have r1 : (n : Int) - 1 ≤ ((n - 1 : Nat) : Int) := by omega
      have HT := Lib.hid (clB_t (rs := rs) (M := M) (a := a) (k := a + (n - 1)) (fun i' j' h1 h2 h3 => HA.out i' j' h1 h2 h3))
      go_wp2
      go_returns
      exact ⟨_, rfl, by rw [HT.out]; rfl, bt HB0.out HX.out⟩

/-- Are readings and an error valid? -/
def AskOk (rs : List Rdg) (a b : Int) : Prop := Vld rs ∧ VF a b ∧ 0 ≤ a
open Classical in
noncomputable def askB (rs : List Rdg) (a b : Int) : Bool := decide (AskOk rs a b)
theorem askB_t {rs : List Rdg} {a b : Int} (h : AskOk rs a b) : askB rs a b = true := by unfold askB; simpa using h
theorem askB_f {rs : List Rdg} {a b : Int} (h : ¬ AskOk rs a b) : askB rs a b = false := by unfold askB; simpa using h
set_option maxHeartbeats 1600000 in
theorem rasked_any (A : Option Addr) (n c : Nat) (rs : List Rdg) (a b : Int) (w : World) (h : Rd w A n c rs) (ha : rngI a) (hb : rngI b) :
    Calls Try.prog 89 #[.slice A n c, .agg #[.int .i64 a, .int .i64 b]] w (Ret (fun v _ => v = .bool (askB rs a b)) w) := by
  have H := Lib.hid h
  have HA := Lib.hid ha
  have HB := Lib.hid hb
  clear h ha hb
  go_enter Try.func89, Try.ntmps89
  go_wp2_with fail
  obtain ⟨W0, hW0⟩ : ∃ W0, W0 = w.alloc (.cells #[.int .i64 a, .int .i64 b] TF) := ⟨_, rfl⟩
  have b1 : Blk W0 w.heap.size TF #[.int .i64 a, .int .i64 b] := by rw [hW0]; exact Blk.new_ _ _ rfl
  have hb0 : Below w.heap.size w W0 := by rw [hW0]; go_grown
  rw [← hW0]
  clear hW0
  refine (rvalid_any _ _ _ rs _ (H.out.below hb0)).mono ?_
  rintro e w1 ⟨v1, rfl, rfl, hb1⟩
  have B1 := Lib.hid (b1.below hb1)
  have HB1 := Lib.hid (bt hb0 hb1)
  clear b1 hb0 hb1
  have k1 := B1.out.cells
  simp only [cellsAre, Nat.zero_add, Nat.reduceAdd, and_true] at k1
  by_cases hv : Vld rs
  · rw [vld_true hv]
    have HV := Lib.hid hv
    clear hv
    go_wp2_with fail
    refine (gcheck_any a b _ HA.out.1 HA.out.2 HB.out.1 HB.out.2).mono ?_
    rintro e w2 ⟨v2, rfl, rfl, hb2⟩
    have k2 := (B1.out.below hb2).cells
    have HB2 := Lib.hid (bt HB1.out hb2)
    simp only [cellsAre, Nat.zero_add, Nat.reduceAdd, and_true] at k2
    clear k1 hb2
    by_cases hf : VF a b
    · rw [ckI_t hf]
      have HF := Lib.hid hf
      clear hf
      by_cases h0 : 0 ≤ a
      · have g1 : decide (0 ≤ a) = true := by simpa using h0
        have HT := Lib.hid (askB_t (rs := rs) (a := a) (b := b) ⟨HV.out, HF.out, h0⟩)
        clear h0
        go_wp2
        go_returns
        exact ⟨_, rfl, by rw [HT.out]; rfl, HB2.out⟩
      · have g1 : decide (0 ≤ a) = false := by simpa using h0
        have HT := Lib.hid (askB_f (rs := rs) (a := a) (b := b) (fun h => h0 h.2.2))
        clear h0
        go_wp2
        go_returns
        exact ⟨_, rfl, by rw [HT.out]; rfl, HB2.out⟩
    · rw [ckI_f hf]
      have HT := Lib.hid (askB_f (rs := rs) (a := a) (b := b) (fun h => hf h.2.1))
      clear hf
      go_wp2
      go_returns
      exact ⟨_, rfl, by rw [HT.out]; rfl, HB2.out⟩
  · rw [vld_false hv]
    have HT := Lib.hid (askB_f (rs := rs) (a := a) (b := b) (fun h => hv h.1))
    clear hv
    go_wp2
    go_returns
    exact ⟨_, rfl, by rw [HT.out]; rfl, HB1.out⟩

/-- What Longest returns. -/
def LonR (rs : List Rdg) (a b : Int) (v : Value) (_ : World) : Prop :=
  (¬ AskOk rs a b → v = .tuple #[.int .i64 0, .int .i64 0, .int .i64 1]) ∧
  (AskOk rs a b → ∃ i k : Nat, v = .tuple #[.int .i64 i, .int .i64 k, .int .i64 0] ∧ LgB (tq rs) (yq rs) (qv a b) rs.length i k)
theorem Clm.grow {rs : List Rdg} {M : Rat} {a b : Nat} (h : Wi (tq rs) (yq rs) M a b) (hc : Clm rs M a (b + 1)) : Wi (tq rs) (yq rs) M a (b + 1) := h.grow hc
theorem Clm.of {rs : List Rdg} {M : Rat} {a b : Nat} (h : Wi (tq rs) (yq rs) M a b) : Clm rs M a b := fun i j h1 h2 h3 => h i j b h1 h2 h3 (Nat.le_refl _)

set_option maxHeartbeats 6400000 in
set_option maxRecDepth 100000 in
theorem rlongest_any (A : Option Addr) (n c : Nat) (rs : List Rdg) (a b : Int) (w : World) (h : Rd w A n c rs) (ha : rngI a) (hb : rngI b) :
    Calls Try.prog 46 #[.slice A n c, .agg #[.int .i64 a, .int .i64 b]] w (Ret (LonR rs a b) w) := by
  have hn := h.le
  have hc := h.cap
  have H := Lib.hid h
  have HL := Lib.hid h.len
  have HA := Lib.hid ha
  have HB := Lib.hid hb
  clear h ha hb
  go_enter Try.func46, Try.ntmps46
  go_wp2_with fail
  obtain ⟨W0, hW0⟩ : ∃ W0, W0 = w.alloc (.cells #[.int .i64 a, .int .i64 b] TF) := ⟨_, rfl⟩
  have b1 : Blk W0 w.heap.size TF #[.int .i64 a, .int .i64 b] := by rw [hW0]; exact Blk.new_ _ _ rfl
  have hb0 : Below w.heap.size w W0 := by rw [hW0]; go_grown
  rw [← hW0]
  clear hW0
  refine (rasked_any _ _ _ rs a b _ (H.out.below hb0) HA.out HB.out).mono ?_
  rintro e w1 ⟨v1, rfl, rfl, hb1⟩
  have B1 := Lib.hid (b1.below hb1)
  have HB1 := Lib.hid (bt hb0 hb1)
  clear b1 hb0 hb1
  have k1 := B1.out.cells
  simp only [cellsAre, Nat.zero_add, Nat.reduceAdd, and_true] at k1
  by_cases hok : AskOk rs a b
  rotate_left
  · rw [askB_f hok]
    have HK := Lib.hid hok
    clear hok
    go_wp2
    go_ret3
    exact ⟨_, rfl, ⟨fun _ => rfl, fun h => absurd h HK.out⟩, HB1.out⟩
  rw [askB_t hok]
  have HK := Lib.hid hok
  have hn64 : n ≤ 64 := by have := hok.1.2.1; have := HL.out; omega
  have hn2 : 2 ≤ n := by have := hok.1.1; have := HL.out; omega
  clear hok
  go_wp2_with fail
  refine (vfrom_any a b _ HA.out.1 HA.out.2 (by have := HK.out.2.1.1; omega) HB.out.2).mono ?_
  rintro e w2 ⟨v2, rfl, x2, hb2⟩
  obtain ⟨d0, D0, p0, e0, d1, D1, p1, e1, rfl⟩ := x2.form
  have X2 := Lib.hid x2
  have HB2 := Lib.hid (bt HB1.out hb2)
  obtain ⟨M, hM⟩ : ∃ M, qv a b = M := ⟨_, rfl⟩
  rw [hM] at X2
  have HM := Lib.hid hM
  clear x2 hb2 k1 hM
  go_wp2_with fail
  refine wp_world (fun W => Blk W w2.heap.size TR #[.bool d0, .slice D0 p0 e0, .bool d1, .slice D1 p1 e1] ∧ Below w2.heap.size w2 W) (by exact ⟨Blk.new_ _ _ rfl, by go_grown⟩) ?_
  rintro W3 ⟨b3, hb3⟩
  have B3 := Lib.hid b3
  have HB3 := Lib.hid (bt HB2.out hb3)
  have X3 := Lib.hid (X2.out.below hb3)
  clear b3 hb3 X2
  go_loopw [8, 9, 10, 11] (fun x8 x9 x10 x11 wr => ∃ (i k f t : Nat), x8 = .int .i64 i ∧ x9 = .int .i64 k ∧ x10 = .int .i64 f ∧ x11 = .int .i64 ((t : Int) + 1) ∧ t + 1 ≤ n ∧ f ≤ t ∧ i ≤ k ∧ k ≤ n ∧ LgB (tq rs) (yq rs) M (t + 1) i k ∧ FrB (tq rs) (yq rs) M f t t ∧ Ext W3 wr) (fun _ _ _ x11 _ => n - (intOf x11).toNat)
  case atStart => exact ⟨0, 0, 0, 0, rfl, rfl, rfl, rfl, by omega, Nat.le_refl _, Nat.le_refl _, by omega, LgB.start, FrB.start, Ext.refl _⟩
  case round =>
    obtain ⟨i, k, f, t, rfl, rfl, rfl, rfl, ht, hft, hik, hkn, hlg, hfr, hx⟩ := hrel
    obtain ⟨wi, rfl⟩ : ∃ wo : World, wo = wr := ⟨_, rfl⟩
    have HG := Lib.hid hlg
    have HF := Lib.hid hfr
    have HX := Lib.hid hx
    clear hlg hfr hx
    by_cases htn : t + 1 < n
    · have g1 : decide ((t : Int) + 1 < (n : Int)) = true := by simp; omega
      go_wp2
      go_loopw [10] (fun x10 wr => ∃ f : Nat, x10 = .int .i64 f ∧ f ≤ t ∧ FrB (tq rs) (yq rs) M f t (t + 1) ∧ Ext W3 wr) (fun x10 _ => t + 1 - (intOf x10).toNat)
      case atStart => exact ⟨f, rfl, hft, HF.out.ahead, HX.out⟩
      case round =>
        clear HF HX hft
        obtain ⟨f, rfl, hft, hfr, hx⟩ := hrel
        obtain ⟨wj, rfl⟩ : ∃ wo : World, wo = wr := ⟨_, rfl⟩
        have HF := Lib.hid hfr
        have HX := Lib.hid hx
        clear hfr hx
        obtain ⟨bb, oo, rfl, _⟩ := H.out.at_ (by omega)
        have s1 := fun w => rd_slice_lh bb oo n c f (t + 2) w (by omega) (by omega) (by omega)
        have r1 : (((t + 2 : Nat) : Int)) = (t : Int) + 1 + 1 := by omega
        rw [r1] at s1
        have w1' : IntKind.i64.wrap ((t : Int) + 1 + 1) = (t : Int) + 1 + 1 := IntWalk.i64_in _ (by omega)
        have k3 := fun w' (hh : Ext wj w') => ((B3.out.below HX.out).below hh).cells
        simp only [cellsAre, Nat.zero_add, Nat.reduceAdd, and_true] at k3
        have hst : Ext wj wj.drew := Ext.drew _
        clear r1
        go_upto_region 9 with fail
        refine wp_region_adv 6 [] [(0, true, some 24, none), (1, true, some 25, none), (2, true, some 26, none), (3, true, some 27, none), (4, true, some 28, none), (5, true, some 29, none)] (by kernel_rfl) (by kernel_rfl) (by kernel_rfl) (by intro it hit; (repeat (rcases List.mem_cons.1 hit with rfl | hit; (focus (intro o ho ev w; injection ho with ho; subst ho; kernel_rfl)))); cases hit) (fun _ _ _ _ _ => ⟨fun h => h, fun h => h⟩) hst ?_
        repeat (first | (refine wpSeq_pure (v := ?_) rfl ?_ ?_; rotate_left 1; (focus (intro wq_ hSq_; (try dsimp only at hSq_); go_simp; (try with_reducible rfl); done)); (try simp only [Act.put, List.setIfInBounds_toArray, List.set_cons_zero, List.set_cons_succ])) | (refine wpSeq_pureG (v := ?_) rfl rfl ?_ ?_; rotate_left 1; (focus (intro wq_ hSq_; (try dsimp only at hSq_); go_simp; (try with_reducible rfl); done)); (try simp only [Act.put, List.setIfInBounds_toArray, List.set_cons_zero, List.set_cons_succ])) | (refine wpSeq_off rfl rfl ?_; (try simp only [Act.put, List.setIfInBounds_toArray, List.set_cons_zero, List.set_cons_succ])))
        intro wz gz sz_
        (try simp only [endJ, List.drop_succ_cons, List.drop_zero])
        have HZ := Lib.hid (show Ext W3 wz from bt HX.out sz_)
        clear s1 w1' k3 hst gz sz_
        go_wp2_with fail
        refine (rcalm_any _ _ _ rs f _ M 2 wz ((H.out.below (bt HB3.out HZ.out)).sub (by omega) (by omega)) HK.out.1 (by omega) (by have := HL.out; omega) (X3.out.below HZ.out) (by omega)).mono ?_
        rintro e w5 ⟨v5, rfl, hv5, hb5⟩
        rw [show f + (t + 2 - f - 1) = t + 1 by omega] at hv5
        have HB5 := Lib.hid (show Ext W3 w5 from bt HZ.out hb5)
        clear hb5
        by_cases hcl : Clm rs M f (t + 1)
        · rw [clB_t hcl] at hv5
          subst hv5
          have HF2 := Lib.hid (HF.out.take (Clm.grow HF.out.1 hcl))
          clear hcl
          by_cases hgt : k - i < t + 1 - f
          · have g2 : decide ((k : Int) - (i : Int) < (t : Int) + 1 - (f : Int)) = true := by simp; omega
            have HG2 := Lib.hid (HG.out.turn HF2.out (by omega) hgt)
            clear hgt
            go_wp2
            go_roundw
            case rel => exact ⟨f, t + 1, f, t + 1, by go_num, by go_num, by go_num, by go_num, by omega, by omega, by omega, by omega, HG2.out, HF2.out, HB5.out⟩
            case measure => first | (simp [intOf]; done) | (simp [intOf]; omega)
          · have g2 : decide ((k : Int) - (i : Int) < (t : Int) + 1 - (f : Int)) = false := by simp; omega
            have HG2 := Lib.hid (HG.out.keep HF2.out (by omega))
            clear hgt
            go_wp2
            go_roundw
            case rel => exact ⟨i, k, f, t + 1, by go_num, by go_num, by go_num, by go_num, by omega, by omega, hik, hkn, HG2.out, HF2.out, HB5.out⟩
            case measure => first | (simp [intOf]; done) | (simp [intOf]; omega)
        · rw [clB_f hcl] at hv5
          subst hv5
          have hno : ¬ Wi (tq rs) (yq rs) M f (t + 1) := fun hw => hcl (Clm.of hw)
          have hft2 : f < t := by
            rcases Nat.lt_or_eq_of_le hft with h | h
            · exact h
            · exact absurd (Wi.two (by omega)) hno
          have HF2 := Lib.hid (HF.out.step hno)
          clear hcl hno
          go_wp2
          go_roundw
          case rel => exact ⟨f + 1, by go_num, by omega, HF2.out, HB5.out⟩
          case measure => first | (simp [intOf]; done) | (simp [intOf]; omega)
    · have : t + 1 = n := by omega
      have g1 : decide ((t : Int) + 1 < (n : Int)) = false := by simp; omega
      have r1 : (n : Int) ≤ (t : Int) + 1 := by omega
      have HT := Lib.hid this
      clear this
      go_wp2
      go_ret3
      exact ⟨_, rfl, ⟨fun h => absurd HK.out h, fun _ => ⟨i, k, rfl, by rw [HM.out, HL.out, ← HT.out]; exact HG.out⟩⟩, bt HB3.out HX.out⟩

/-- What Pieces returns. -/
def PieR (rs : List Rdg) (a b : Int) (v : Value) (w : World) : Prop :=
  (¬ AskOk rs a b → v = .tuple #[.slice none 0 0, .int .i64 1]) ∧
  (AskOk rs a b → ∃ (xs : List Nat) (A : Option Addr) (n c : Nat), v = .tuple #[.slice A n c, .int .i64 0] ∧ Sl TN w A n c (xs.map I64) ∧ PcS (tq rs) (yq rs) (qv a b) rs.length xs)
/-- The parts of the first b readings. -/
def PcI (rs : List Rdg) (M : Rat) (b : Nat) (xs : List Nat) : Prop :=
  PcP (tq rs) (yq rs) M xs ∧ ((b = 0 ∧ xs = [0]) ∨ (0 < b ∧ xs.getD (xs.length - 1) 0 < b ∧ Wi (tq rs) (yq rs) M (xs.getD (xs.length - 1) 0) (b - 1))) ∧ xs.length ≤ b + 1
theorem PcI.start (rs : List Rdg) (M : Rat) : PcI rs M 0 [0] := ⟨PcP.start, Or.inl ⟨rfl, rfl⟩, by simp⟩
theorem PcI.last_le {rs : List Rdg} {M : Rat} {b : Nat} {xs : List Nat} (h : PcI rs M b xs) : xs.getD (xs.length - 1) 0 ≤ b := by
  rcases h.2.1 with ⟨h1, h2⟩ | ⟨_, h2, _⟩
  · rw [h2]; exact Nat.zero_le _
  · omega
theorem PcI.yes {rs : List Rdg} {M : Rat} {b : Nat} {xs : List Nat} (h : PcI rs M b xs) (hc : Clm rs M (xs.getD (xs.length - 1) 0) b) : PcI rs M (b + 1) xs := by
  obtain ⟨h1, h2, h3⟩ := h
  refine ⟨h1, Or.inr ⟨by omega, ?_⟩, by omega⟩
  rcases h2 with ⟨e1, e2⟩ | ⟨e1, e2, e3⟩
  · subst e1 e2
    exact ⟨by show 0 < 1; omega, Wi.two (by simp)⟩
  · refine ⟨by omega, ?_⟩
    obtain ⟨b', rfl⟩ : ∃ b', b = b' + 1 := ⟨b - 1, by omega⟩
    exact Clm.grow e3 hc
theorem PcI.no {rs : List Rdg} {M : Rat} {b : Nat} {xs : List Nat} (h : PcI rs M b xs) (hc : ¬ Clm rs M (xs.getD (xs.length - 1) 0) b) : PcI rs M (b + 1) (xs ++ [b]) := by
  have hno : ¬ Wi (tq rs) (yq rs) M (xs.getD (xs.length - 1) 0) b := fun hw => hc (Clm.of hw)
  obtain ⟨h1, h2, h3⟩ := h
  have hl : (xs ++ [b]).getD ((xs ++ [b]).length - 1) 0 = b := by
    rw [getD_sn, List.length_append, List.length_singleton, if_neg (by omega), if_pos (by omega)]
  rcases h2 with ⟨e1, e2⟩ | ⟨e1, e2, e3⟩
  · subst e1 e2
    exact absurd (Wi.two (by simp)) hno
  · refine ⟨h1.snoc e2 e3 hno, Or.inr ⟨by omega, ?_⟩, by simp; omega⟩
    rw [hl]
    exact ⟨by omega, Wi.two (by omega)⟩
theorem PcI.done {rs : List Rdg} {M : Rat} {n : Nat} {xs : List Nat} (h : PcI rs M n xs) (hn : 0 < n) : PcS (tq rs) (yq rs) M n xs := by
  obtain ⟨h1, h2, h3⟩ := h
  rcases h2 with ⟨e1, _⟩ | ⟨e1, e2, e3⟩
  · omega
  · exact ⟨h1, e2, e3⟩
theorem Ow.one0 (base : Nat) (w : World) (h : base ≤ w.heap.size) : Ow base (w.alloc (.cells #[.int .i64 0] TN)) (.slice (some ⟨w.heap.size, 0, none⟩) 1 1) [0] :=
  World.ownsRow_lit w #[.int .i64 0] 1 h (by unfold maxLen; omega) rfl

set_option maxHeartbeats 6400000 in
set_option maxRecDepth 100000 in
theorem rpieces_any (A : Option Addr) (n c : Nat) (rs : List Rdg) (a b : Int) (w : World) (h : Rd w A n c rs) (ha : rngI a) (hb : rngI b) :
    Calls Try.prog 47 #[.slice A n c, .agg #[.int .i64 a, .int .i64 b]] w (Ret (PieR rs a b) w) := by
  have hn := h.le
  have hc := h.cap
  have H := Lib.hid h
  have HL := Lib.hid h.len
  have HA := Lib.hid ha
  have HB := Lib.hid hb
  clear h ha hb
  go_enter Try.func47, Try.ntmps47
  go_wp2_with fail
  obtain ⟨W0, hW0⟩ : ∃ W0, W0 = w.alloc (.cells #[.int .i64 a, .int .i64 b] TF) := ⟨_, rfl⟩
  have b1 : Blk W0 w.heap.size TF #[.int .i64 a, .int .i64 b] := by rw [hW0]; exact Blk.new_ _ _ rfl
  have hb0 : Below w.heap.size w W0 := by rw [hW0]; go_grown
  rw [← hW0]
  clear hW0
  refine (rasked_any _ _ _ rs a b _ (H.out.below hb0) HA.out HB.out).mono ?_
  rintro e w1 ⟨v1, rfl, rfl, hb1⟩
  have B1 := Lib.hid (b1.below hb1)
  have HB1 := Lib.hid (bt hb0 hb1)
  clear b1 hb0 hb1
  have k1 := B1.out.cells
  simp only [cellsAre, Nat.zero_add, Nat.reduceAdd, and_true] at k1
  by_cases hok : AskOk rs a b
  rotate_left
  · rw [askB_f hok]
    have HK := Lib.hid hok
    clear hok
    go_wp2
    go_ret2
    exact ⟨_, rfl, ⟨fun _ => rfl, fun h => absurd h HK.out⟩, HB1.out⟩
  rw [askB_t hok]
  have HK := Lib.hid hok
  have hn64 : n ≤ 64 := by have := hok.1.2.1; have := HL.out; omega
  have hn2 : 2 ≤ n := by have := hok.1.1; have := HL.out; omega
  clear hok
  go_wp2_with fail
  refine (vfrom_any a b _ HA.out.1 HA.out.2 (by have := HK.out.2.1.1; omega) HB.out.2).mono ?_
  rintro e w2 ⟨v2, rfl, x2, hb2⟩
  obtain ⟨d0, D0, p0, e0, d1, D1, p1, e1, rfl⟩ := x2.form
  have X2 := Lib.hid x2
  have HB2 := Lib.hid (bt HB1.out hb2)
  obtain ⟨M, hM⟩ : ∃ M, qv a b = M := ⟨_, rfl⟩
  rw [hM] at X2
  have HM := Lib.hid hM
  clear x2 hb2 k1 hM
  go_upto_region 4 with fail
  refine wp_world (fun W => Blk W w2.heap.size TR #[.bool d0, .slice D0 p0 e0, .bool d1, .slice D1 p1 e1] ∧ Below w2.heap.size w2 W) (by exact ⟨Blk.new_ _ _ rfl, by go_grown⟩) ?_
  rintro W3 ⟨b3, hb3⟩
  have B3 := Lib.hid b3
  have HB3 := Lib.hid (bt HB2.out hb3)
  have X3 := Lib.hid (X2.out.below hb3)
  clear b3 hb3 X2
  go_wp2
  go_loopw [7, 19] (fun v x wr => ∃ (t : Nat) (xs : List Nat), x = .int .i64 t ∧ t ≤ n ∧ PcI rs M t xs ∧ Ow W3.heap.size wr v xs ∧ Ext W3 wr) (fun _ x _ => n - (intOf x).toNat)
  case atStart => exact ⟨0, [0], rfl, Nat.zero_le _, PcI.start _ _, Ow.one0 _ _ (Nat.le_refl _), Ext.allocR _ _⟩
  case round =>
    obtain ⟨t, xs, rfl, ht, hpc, hown, hx⟩ := hrel
    obtain ⟨wi, rfl⟩ : ∃ wo : World, wo = wr := ⟨_, rfl⟩
    obtain ⟨A', n', c', rfl, hsl⟩ := hown.sl
    have hn' : xs.length = n' := by have := hsl.len; simpa using this
    have hle' := hsl.le
    have hcap' := hsl.cap
    have h1' : 1 ≤ n' := by have := hpc.1.1; omega
    have h64' : n' ≤ 65 := by have := hpc.2.2; omega
    have HP := Lib.hid hpc
    have HO := Lib.hid hown
    have HX := Lib.hid hx
    have HSL := Lib.hid hsl
    have HN := Lib.hid hn'
    clear hpc hown hx hsl hn'
    by_cases htn : t < n
    · have g1 : decide ((t : Int) < (n : Int)) = true := by simp; omega
      obtain ⟨b0, o0, rfl, hcl⟩ := HSL.out.at_int (by omega)
      have c1 := hcl (n' - 1) (by omega)
      have hft := HP.out.last_le
      rw [HN.out] at hft
      obtain ⟨f, hf⟩ : ∃ f, xs.getD (n' - 1) 0 = f := ⟨_, rfl⟩
      rw [hf] at c1 hft
      have HF : Hid (xs.getD (xs.length - 1) 0 = f) := by show _ = _; rw [HN.out]; exact hf
      have q1 : ((n' : Int) - 1).toNat = n' - 1 := by omega
      have q2 : (0 : Int) ≤ (n' : Int) - 1 := by omega
      have q3 : (n' : Int) - 1 < (n' : Int) := by omega
      have q4 : (1 : Int) ≤ (n' : Int) := by omega
      clear hcl hf
      go_upto_region 9 with fail
      clear c1 q1 q2 q3 q4
      obtain ⟨bb, oo, rfl, _⟩ := H.out.at_ (by omega)
      have s1 := fun w => rd_slice_lh bb oo n c f (t + 1) w (by omega) (by omega) (by omega)
      have r1 : (((t + 1 : Nat) : Int)) = (t : Int) + 1 := by omega
      rw [r1] at s1
      have w1' : IntKind.i64.wrap ((t : Int) + 1) = (t : Int) + 1 := IntWalk.i64_in _ (by omega)
      have k3 := fun w' (hh : Ext wi w') => ((B3.out.below HX.out).below hh).cells
      simp only [cellsAre, Nat.zero_add, Nat.reduceAdd, and_true] at k3
      have hst : Ext wi wi.drew := Ext.drew _
      clear r1
      refine wp_region_adv 6 [] [(0, true, some 28, none), (1, true, some 29, none), (2, true, some 30, none), (3, true, some 31, none), (4, true, some 32, none), (5, true, some 33, none)] (by kernel_rfl) (by kernel_rfl) (by kernel_rfl) (by intro it hit; (repeat (rcases List.mem_cons.1 hit with rfl | hit; (focus (intro o ho ev w; injection ho with ho; subst ho; kernel_rfl)))); cases hit) (fun _ _ _ _ _ => ⟨fun h => h, fun h => h⟩) hst ?_
      repeat (first | (refine wpSeq_pure (v := ?_) rfl ?_ ?_; rotate_left 1; (focus (intro wq_ hSq_; (try dsimp only at hSq_); go_simp; (try with_reducible rfl); done)); (try simp only [Act.put, List.setIfInBounds_toArray, List.set_cons_zero, List.set_cons_succ])) | (refine wpSeq_pureG (v := ?_) rfl rfl ?_ ?_; rotate_left 1; (focus (intro wq_ hSq_; (try dsimp only at hSq_); go_simp; (try with_reducible rfl); done)); (try simp only [Act.put, List.setIfInBounds_toArray, List.set_cons_zero, List.set_cons_succ])) | (refine wpSeq_off rfl rfl ?_; (try simp only [Act.put, List.setIfInBounds_toArray, List.set_cons_zero, List.set_cons_succ])))
      intro wz gz sz_
      (try simp only [endJ, List.drop_succ_cons, List.drop_zero])
      have HZ := Lib.hid (show Ext W3 wz from bt HX.out sz_)
      have HOZ := Lib.hid (HO.out.below sz_)
      clear s1 w1' k3 hst gz sz_
      go_wp2_with fail
      refine (rcalm_any _ _ _ rs f _ M 2 wz ((H.out.below (bt HB3.out HZ.out)).sub (by omega) (by omega)) HK.out.1 (by omega) (by have := HL.out; omega) (X3.out.below HZ.out) (by omega)).mono ?_
      rintro e w5 ⟨v5, rfl, hv5, hb5⟩
      rw [show f + (t + 1 - f - 1) = t by omega] at hv5
      have HB5 := Lib.hid (show Ext W3 w5 from bt HZ.out hb5)
      have HO5 := Lib.hid (HOZ.out.below hb5)
      clear hb5
      by_cases hcl : Clm rs M f t
      · rw [clB_t hcl] at hv5
        subst hv5
        have HP2 := Lib.hid (HP.out.yes (by rw [HF.out]; exact hcl))
        clear hcl
        go_wp2
        go_roundw
        case rel => exact ⟨t + 1, xs, by go_num, by omega, HP2.out, HO5.out, HB5.out⟩
        case measure => first | (simp [intOf]; done) | (simp [intOf]; omega)
      · rw [clB_f hcl] at hv5
        subst hv5
        have HP2 := Lib.hid (HP.out.no (by rw [HF.out]; exact hcl))
        clear hcl
        go_wp2_with (at_builtin; refine wp_app1 rfl _ _ rfl W3.heap.size _ xs rfl HO5.out _ t rfl rfl (by have := HN.out; omega) HB5.out.size ?_; intro v' w6 hown6 hb6)
        go_roundw
        case rel => exact ⟨t + 1, xs ++ [t], by go_num, by omega, HP2.out, hown6, Below.trans HB5.out hb6⟩
        case measure => first | (simp [intOf]; done) | (simp [intOf]; omega)
    · have : t = n := by omega
      have g1 : decide ((t : Int) < (n : Int)) = false := by simp; omega
      subst this
      go_wp2
      go_ret2
      exact ⟨_, rfl, ⟨fun h => absurd HK.out h, fun _ => ⟨xs, _, _, _, rfl, HSL.out, by rw [HM.out, HL.out]; exact HP.out.done (by omega)⟩⟩, bt HB3.out HX.out⟩
end Go.Proofs.Tb
