/- Contracts of the reference for rates: Within, Longest, Pieces. -/
import Derived.Test.YtcbffkkcldnegaaRefW
import Derived.Test.YtcbffkkcldnegaaRateN
set_option linter.unusedVariables false
set_option linter.unusedSimpArgs false
namespace Go.Proofs.Tb
open Go.RowKit
attribute [local go_sem] cell_set_same

theorem Vld.sub {rs : List Rdg} (hv : Vld rs) {a n : Nat} (h : a + n ≤ rs.length) (hn : 2 ≤ n) : Vld (subR rs a n) := by
  refine ⟨by rw [subR_len h]; exact hn, by rw [subR_len h]; have := hv.2.1; omega, fun k hk => ?_⟩
  rw [subR_len h] at hk
  have ok := hv.2.2 (a + k) (by omega)
  unfold okAt at ok ⊢
  rw [subR_get hk]
  refine ⟨ok.1, ok.2.1, ok.2.2.1, ok.2.2.2.1, fun hk0 => ?_⟩
  rw [subR_get (by omega)]
  have := ok.2.2.2.2 (by omega)
  rw [show a + k - 1 = a + (k - 1) by omega] at this
  exact this
theorem wi_sub {rs : List Rdg} {M : Rat} {a n : Nat} (hn : 1 ≤ n) : Wi (tq rs) (yq rs) M a (a + (n - 1)) ↔ ∀ i j k, i < j → j < k → k < n → TriOk (tq (subR rs a n)) (yq (subR rs a n)) M i j k := by
  have e : ∀ i j k, i < n → j < n → k < n → (TriOk (tq (subR rs a n)) (yq (subR rs a n)) M i j k ↔ TriOk (tq rs) (yq rs) M (a + i) (a + j) (a + k)) := fun i j k h1 h2 h3 => by
    unfold TriOk bd3
    rw [subR_tq h1, subR_tq h2, subR_tq h3, subR_yq h1, subR_yq h2, subR_yq h3]
  constructor
  · intro h i j k h1 h2 h3
    rw [e i j k (by omega) (by omega) h3]
    exact h (a + i) (a + j) (a + k) (by omega) (by omega) (by omega) (by omega)
  · intro h i j k h1 h2 h3 h4
    have := (e (i - a) (j - a) (k - a) (by omega) (by omega) (by omega)).1 (h (i - a) (j - a) (k - a) (by omega) (by omega) (by omega))
    rw [show a + (i - a) = i by omega, show a + (j - a) = j by omega, show a + (k - a) = k by omega] at this
    exact this
open Classical in
noncomputable def wiB (rs : List Rdg) (M : Rat) (a b : Nat) : Bool := decide (Wi (tq rs) (yq rs) M a b)
theorem wiB_t {rs : List Rdg} {M : Rat} {a b : Nat} (h : Wi (tq rs) (yq rs) M a b) : wiB rs M a b = true := by unfold wiB; simpa using h
theorem wiB_f {rs : List Rdg} {M : Rat} {a b : Nat} (h : ¬ Wi (tq rs) (yq rs) M a b) : wiB rs M a b = false := by unfold wiB; simpa using h
theorem cmpR_leT {x y : Rat} (h : x ≤ y) : decide (cmpR x y ≤ 0) = true := by
  have : ¬ 0 < cmpR x y := fun h' => Rat.not_lt.2 h (cmpR_gt.1 h')
  simpa using this
theorem cmpR_leF {x y : Rat} (h : ¬ x ≤ y) : decide (cmpR x y ≤ 0) = false := by
  have : 0 < cmpR x y := cmpR_gt.2 (Rat.not_le.1 h)
  simpa using this

set_option maxHeartbeats 3200000 in
set_option maxRecDepth 100000 in
theorem zwithin_any (A : Option Addr) (n c : Nat) (rs : List Rdg) (a : Nat) (m : Value) (M : Rat) (s : Nat) (w : World) (h : Rd w A n c (subR rs a n)) (hv : Vld rs) (hn1 : 1 ≤ n) (han : a + n ≤ rs.length) (hm : ZX w m M s) (hs : s ≤ 1000000) (hM : 0 ≤ M) :
    Calls Try.prog 91 #[.slice A n c, m] w (Ret (fun v _ => v = .bool (wiB rs M a (a + (n - 1)))) w) := by
  have hn := h.le
  have hc := h.cap
  have hn64 : n ≤ 64 := by have := hv.2.1; omega
  have H := Lib.hid h
  obtain ⟨b0, A0, n0, c0, b1, A1, n1, c1, rfl⟩ := hm.form
  have HM := Lib.hid hm
  have HS := Lib.hid hs
  have HM0 := Lib.hid hM
  by_cases h2 : n < 2
  · have g1 : decide ((n : Int) < 2) = true := by simp; omega
    have HT := Lib.hid (wiB_t (rs := rs) (M := M) (a := a) (b := a + (n - 1)) (Wi.two (by omega)))
    clear h hv han hm hs hM
    go_enter Try.func91, Try.ntmps91
    go_wp2
    go_returns
    exact ⟨_, rfl, by rw [HT.out]; rfl, by go_grown⟩
  · have g1 : decide ((n : Int) < 2) = false := by simp; omega
    have HV := Lib.hid (hv.sub han (by omega))
    have HWI := Lib.hid (wi_sub (rs := rs) (M := M) (a := a) hn1)
    have HLN : Hid ((subR rs a n).length = n) := subR_len han
    clear h hv han hm hs hM
    go_enter Try.func91, Try.ntmps91
    go_wp2_with fail
    obtain ⟨W0, hW0⟩ : ∃ W0, W0 = w.alloc (.cells #[.bool b0, .slice A0 n0 c0, .bool b1, .slice A1 n1 c1] TQ) := ⟨_, rfl⟩
    have e3 : Blk W0 w.heap.size TQ #[.bool b0, .slice A0 n0 c0, .bool b1, .slice A1 n1 c1] := by rw [hW0]; exact Blk.new_ _ _ rfl
    have hb0 : Below w.heap.size w W0 := by rw [hW0]; go_grown
    rw [← hW0]
    clear hW0
    refine (zleast_any A n c _ W0 (H.out.below hb0) HV.out).mono ?_
    rintro e w1 ⟨v1, rfl, ⟨x, y, E, l, q, hE, rfl, hzl, hzq⟩, hb1⟩
    obtain ⟨o0, O0, a0, i0, o1, O1, a1, i1, o2, O2, a2, i2, o3, O3, a3, i3, rfl, zl1, zl2⟩ := hzl
    obtain ⟨d, B, m', e, d', B', m'', e', rfl⟩ := hzq.form
    have E3 := Lib.hid (e3.below hb1)
    have HE := Lib.hid hE
    have HZQ := Lib.hid hzq
    have HB1 := Lib.hid (bt hb0 hb1)
    clear zl1 zl2 hE hzq e3 hb0 hb1
    go_upto_region 4 with fail
    refine wp_world (fun W => Blk W (w1.heap.size + 1) TQ #[.bool d, .slice B m' e, .bool d', .slice B' m'' e'] ∧ Below w1.heap.size w1 W) (by exact ⟨Blk.new_ _ _ (by simp), by go_grown⟩) ?_
    rintro W2 ⟨e6, hb2⟩
    have k3 := zcells (E3.out.below hb2)
    have k6 := zcells e6
    have HB2 := Lib.hid (bt HB1.out hb2)
    have HZQ := Lib.hid (HZQ.out.below hb2)
    have HM2 := Lib.hid (HM.out.below (bt HB1.out hb2))
    clear e6 hb2
    go_wp2_with fail
    refine (xcmp_any HZQ.out HM2.out (by have := HS.out; omega)).mono ?_
    rintro e w3 ⟨v3, rfl, rfl, hb3⟩
    have HB3 := Lib.hid (bt HB2.out hb3)
    clear hb3 k3 k6
    have HT : Hid (E ≤ M ↔ Wi (tq rs) (yq rs) M a (a + (n - 1))) := by
      show _ ↔ _
      have := HE.out.tri HV.out.tq_mono HM0.out
      rw [HLN.out] at this
      exact this.trans HWI.out.symm
    by_cases hle : E ≤ M
    · have g2 := cmpR_leT hle
      have HW := Lib.hid (wiB_t (HT.out.1 hle))
      clear hle
      go_wp2
      go_returns
      exact ⟨_, rfl, by rw [HW.out]; rfl, HB3.out⟩
    · have g2 := cmpR_leF hle
      have HW := Lib.hid (wiB_f (fun h => hle (HT.out.2 h)))
      clear hle
      go_wp2
      go_returns
      exact ⟨_, rfl, by rw [HW.out]; rfl, HB3.out⟩

/-- What Longest of the reference returns. -/
def ZLonR (rs : List Rdg) (M : Rat) (v : Value) (_ : World) : Prop := ∃ i k : Nat, v = .tuple #[.int .i64 i, .int .i64 k] ∧ LgB (tq rs) (yq rs) M rs.length i k
set_option maxHeartbeats 6400000 in
set_option maxRecDepth 100000 in
theorem zlongest_any (A : Option Addr) (n c : Nat) (rs : List Rdg) (m : Value) (M : Rat) (s : Nat) (w : World) (h : Rd w A n c rs) (hv : Vld rs) (hm : ZX w m M s) (hs : s ≤ 1000000) (hM : 0 ≤ M) :
    Calls Try.prog 48 #[.slice A n c, m] w (Ret (ZLonR rs M) w) := by
  have hn := h.le
  have hc := h.cap
  have hn64 : n ≤ 64 := by have := hv.2.1; have := h.len; omega
  have hn2 : 2 ≤ n := by have := hv.1; have := h.len; omega
  have H := Lib.hid h
  have HL := Lib.hid h.len
  have HV := Lib.hid hv
  obtain ⟨b0, A0, n0, c0, b1, A1, n1, c1, rfl⟩ := hm.form
  have HM := Lib.hid hm
  have HS := Lib.hid hs
  have HM0 := Lib.hid hM
  obtain ⟨bb, oo, rfl, _⟩ := h.at_ (by omega)
  clear h hv hm hs hM
  go_enter Try.func48, Try.ntmps48
  go_wp2_with fail
  refine wp_world (fun W => Blk W w.heap.size TQ #[.bool b0, .slice A0 n0 c0, .bool b1, .slice A1 n1 c1] ∧ Below w.heap.size w W) (by exact ⟨Blk.new_ _ _ rfl, by go_grown⟩) ?_
  rintro W0 ⟨e3, hbw⟩
  have E3 := Lib.hid e3
  have HB0 := Lib.hid hbw
  clear e3 hbw
  go_loopw [6] (fun x wr => ∃ u : Nat, x = .int .i64 u ∧ 1 ≤ u ∧ u ≤ n ∧ (∀ a b, a ≤ b → b < n → u < b - a + 1 → ¬ Wi (tq rs) (yq rs) M a b) ∧ Ext W0 wr) (fun x _ => (intOf x).toNat)
  case atStart => exact ⟨n, rfl, by omega, Nat.le_refl _, fun a b h1 h2 h3 => absurd h3 (by omega), Ext.refl _⟩
  case round =>
    obtain ⟨u, rfl, hu1, hu2, hno, hx⟩ := hrel
    obtain ⟨wi, rfl⟩ : ∃ wo : World, wo = wr := ⟨_, rfl⟩
    have HNO := Lib.hid hno
    have HX := Lib.hid hx
    clear hno hx
    by_cases hu : 2 ≤ u
    · have g1 : decide ((2 : Int) ≤ (u : Int)) = true := by simp; omega
      go_wp2
      go_loopw [7] (fun x wr => ∃ i : Nat, x = .int .i64 i ∧ i + u ≤ n + 1 ∧ (∀ a, a < i → ¬ Wi (tq rs) (yq rs) M a (a + (u - 1))) ∧ Ext W0 wr) (fun x _ => n + 1 - (intOf x).toNat)
      case atStart => exact ⟨0, rfl, by omega, fun a h => absurd h (by omega), HX.out⟩
      case round =>
        clear HX
        obtain ⟨i, rfl, hi, hall, hx⟩ := hrel
        obtain ⟨wj, rfl⟩ : ∃ wo : World, wo = wr := ⟨_, rfl⟩
        have HA := Lib.hid hall
        have HX := Lib.hid hx
        clear hall hx
        by_cases hin : i + u ≤ n
        · have g2 : decide ((i : Int) + (u : Int) ≤ (n : Int)) = true := by simp; omega
          have hsu : i + u - i = u := by omega
          have s1 := fun w => rd_slice_lh bb oo n c i (i + u) w (by omega) (by omega) (by omega)
          have HRS : Hid (∀ W, Ext W0 W → Rd W (some ⟨bb, oo + i * 2, none⟩) u (c - i) (subR rs i u)) := fun W hW => by
            have := (H.out.below (bt HB0.out hW)).sub (lo := i) (hi := i + u) (by omega) hin
            rw [hsu] at this
            exact this
          rw [hsu] at s1
          have r1 : (((i + u : Nat) : Int)) = (i : Int) + (u : Int) := by omega
          rw [r1] at s1
          have w1' : IntKind.i64.wrap ((i : Int) + (u : Int)) = (i : Int) + (u : Int) := IntWalk.i64_in _ (by omega)
          have k3 := fun w' (hh : Ext wj w') => zcells ((E3.out.below HX.out).below hh)
          have hst : Ext wj wj.drew := Ext.drew _
          clear r1 hsu
          go_upto_region 7 with fail
          refine wp_region_adv 7 [] [(0, true, some 22, none), (1, true, some 23, none), (2, true, some 24, none), (3, true, some 25, none), (4, true, some 26, none), (5, true, some 27, none), (6, true, some 28, none)] (by kernel_rfl) (by kernel_rfl) (by kernel_rfl) (by intro it hit; (repeat (rcases List.mem_cons.1 hit with rfl | hit; (focus (intro o ho ev w; injection ho with ho; subst ho; kernel_rfl)))); cases hit) (fun _ _ _ _ _ => ⟨fun h => h, fun h => h⟩) hst ?_
          repeat (first | (refine wpSeq_pure (v := ?_) rfl ?_ ?_; rotate_left 1; (focus (intro wq_ hSq_; (try dsimp only at hSq_); go_simp; (try with_reducible rfl); done)); (try simp only [Act.put, List.setIfInBounds_toArray, List.set_cons_zero, List.set_cons_succ])) | (refine wpSeq_pureG (v := ?_) rfl rfl ?_ ?_; rotate_left 1; (focus (intro wq_ hSq_; (try dsimp only at hSq_); go_simp; (try with_reducible rfl); done)); (try simp only [Act.put, List.setIfInBounds_toArray, List.set_cons_zero, List.set_cons_succ])) | (refine wpSeq_off rfl rfl ?_; (try simp only [Act.put, List.setIfInBounds_toArray, List.set_cons_zero, List.set_cons_succ])))
          intro wz gz sz_
          (try simp only [endJ, List.drop_succ_cons, List.drop_zero])
          have HZ := Lib.hid (show Ext W0 wz from bt HX.out sz_)
          clear s1 w1' k3 hst gz sz_
          go_wp2_with fail
          refine (zwithin_any _ _ _ rs i _ M s wz (HRS.out _ HZ.out) HV.out (by omega) (by have := HL.out; omega) (HM.out.below (bt HB0.out HZ.out)) HS.out HM0.out).mono ?_
          rintro e w5 ⟨v5, rfl, hv5, hb5⟩
          have HB5 := Lib.hid (show Ext W0 w5 from bt HZ.out hb5)
          clear hb5
          by_cases hw : Wi (tq rs) (yq rs) M i (i + (u - 1))
          · rw [wiB_t hw] at hv5
            subst hv5
            have HG : Hid (LgB (tq rs) (yq rs) M rs.length i (i + (u - 1))) := ⟨by omega, by rw [HL.out]; omega, hw, fun a b h1 h2 h3 => Nat.le_of_not_lt fun hlt => HNO.out a b h1 (by rw [← HL.out]; exact h2) (by omega) h3, fun a b h1 h2 h3 h4 => Nat.le_of_not_lt fun hlt => HA.out a hlt (by rw [show a + (u - 1) = b by omega]; exact h4)⟩
            clear hw
            have r2 : (i : Int) + (u : Int) - 1 = ((i + (u - 1) : Nat) : Int) := by omega
            go_wp2
            go_ret2
            exact ⟨_, rfl, ⟨i, i + (u - 1), by first | rfl | (rw [← r2]) | (simp; omega), HG.out⟩, bt HB0.out HB5.out⟩
          · rw [wiB_f hw] at hv5
            subst hv5
            have HN := Lib.hid hw
            clear hw
            go_wp2
            go_roundw
            case rel => exact ⟨i + 1, by go_num, by omega, fun a h => by rcases Nat.lt_or_eq_of_le (Nat.le_of_lt_succ h) with h3 | h3; exact HA.out a h3; rw [h3]; exact HN.out, HB5.out⟩
            case measure => first | (simp [intOf]; done) | (simp [intOf]; omega)
        · have g2 : decide ((i : Int) + (u : Int) ≤ (n : Int)) = false := by simp; omega
          have HN2 : Hid (∀ a b, a ≤ b → b < n → u - 1 < b - a + 1 → ¬ Wi (tq rs) (yq rs) M a b) := fun a b h1 h2 h3 h4 => by
            by_cases he : u < b - a + 1
            · exact HNO.out a b h1 h2 he h4
            · exact HA.out a (by omega) (by rw [show a + (u - 1) = b by omega]; exact h4)
          have r2 : (u : Int) - 1 = ((u - 1 : Nat) : Int) := by omega
          have HR2 := Lib.hid r2
          clear r2
          go_wp2
          go_roundw
          case rel => exact ⟨u - 1, by first | (rw [HR2.out]) | go_num, by omega, by omega, HN2.out, HX.out⟩
          case measure => first | (simp [intOf]; done) | (simp [intOf]; omega)
    · exact absurd (Wi.two (by omega)) (HNO.out 0 1 (by omega) (by omega) (by omega))

/-- What Pieces of the reference returns. -/
def ZPieR (rs : List Rdg) (M : Rat) (v : Value) (w : World) : Prop := ∃ (xs : List Nat) (A : Option Addr) (n c : Nat), v = .slice A n c ∧ Sl TN w A n c (xs.map I64) ∧ PcS (tq rs) (yq rs) M rs.length xs
/-- The parts ahead of point t. -/
def PcZ (rs : List Rdg) (M : Rat) (n t : Nat) (xs : List Nat) : Prop :=
  ((t = 0 ∧ xs = []) ∨ (PcP (tq rs) (yq rs) M xs ∧ xs.getD (xs.length - 1) 0 < t ∧ Wi (tq rs) (yq rs) M (xs.getD (xs.length - 1) 0) (t - 1) ∧ (t < n → ¬ Wi (tq rs) (yq rs) M (xs.getD (xs.length - 1) 0) t))) ∧ xs.length ≤ t
theorem PcZ.start (rs : List Rdg) (M : Rat) (n : Nat) : PcZ rs M n 0 [] := ⟨Or.inl ⟨rfl, rfl⟩, Nat.le_refl _⟩
theorem PcZ.snoc {rs : List Rdg} {M : Rat} {n t u : Nat} {xs : List Nat} (h : PcZ rs M n t xs) (ht : t < n) (hu : t < u) (hw : Wi (tq rs) (yq rs) M t (u - 1)) (hno : u < n → ¬ Wi (tq rs) (yq rs) M t u) : PcZ rs M n u (xs ++ [t]) := by
  have hl : (xs ++ [t]).getD ((xs ++ [t]).length - 1) 0 = t := by
    rw [getD_sn, List.length_append, List.length_singleton, if_neg (by omega), if_pos (by omega)]
  refine ⟨Or.inr ⟨?_, ?_⟩, by have := h.2; simp; omega⟩
  · rcases h.1 with ⟨rfl, rfl⟩ | ⟨h1, h2, h3, h4⟩
    · exact PcP.start
    · exact h1.snoc h2 h3 (h4 ht)
  · rw [hl]; exact ⟨hu, hw, hno⟩
theorem PcZ.done {rs : List Rdg} {M : Rat} {n : Nat} {xs : List Nat} (h : PcZ rs M n n xs) (hn : 0 < n) : PcS (tq rs) (yq rs) M n xs := by
  rcases h.1 with ⟨h0, _⟩ | ⟨h1, h2, h3, _⟩
  · omega
  · exact ⟨h1, h2, h3⟩

set_option maxHeartbeats 6400000 in
set_option maxRecDepth 100000 in
theorem zpieces_any (A : Option Addr) (n c : Nat) (rs : List Rdg) (m : Value) (M : Rat) (s : Nat) (w : World) (h : Rd w A n c rs) (hv : Vld rs) (hm : ZX w m M s) (hs : s ≤ 1000000) (hM : 0 ≤ M) :
    Calls Try.prog 49 #[.slice A n c, m] w (Ret (ZPieR rs M) w) := by
  have hn := h.le
  have hc := h.cap
  have hn64 : n ≤ 64 := by have := hv.2.1; have := h.len; omega
  have hn2 : 2 ≤ n := by have := hv.1; have := h.len; omega
  have H := Lib.hid h
  have HL := Lib.hid h.len
  have HV := Lib.hid hv
  obtain ⟨b0, A0, n0, c0, b1, A1, n1, c1, rfl⟩ := hm.form
  have HM := Lib.hid hm
  have HS := Lib.hid hs
  have HM0 := Lib.hid hM
  obtain ⟨bb, oo, rfl, _⟩ := h.at_ (by omega)
  clear h hv hm hs hM
  go_enter Try.func49, Try.ntmps49
  go_upto_region 1 with fail
  refine wp_world (fun W => Blk W w.heap.size TQ #[.bool b0, .slice A0 n0 c0, .bool b1, .slice A1 n1 c1] ∧ Below w.heap.size w W) (by exact ⟨Blk.new_ _ _ rfl, by go_grown⟩) ?_
  rintro W0 ⟨e3, hbw⟩
  have E3 := Lib.hid e3
  have HB0 := Lib.hid hbw
  clear e3 hbw
  go_wp2
  go_loopw [5, 6] (fun v x wr => ∃ (t : Nat) (xs : List Nat), x = .int .i64 t ∧ t ≤ n ∧ PcZ rs M n t xs ∧ Ow W0.heap.size wr v xs ∧ Ext W0 wr) (fun _ x _ => n - (intOf x).toNat)
  case atStart => exact ⟨0, [], rfl, Nat.zero_le _, PcZ.start _ _ _, Ow.empty _ _ (Nat.le_refl _), Ext.allocR _ _⟩
  case round =>
    obtain ⟨t, xs, rfl, ht, hpc, hown, hx⟩ := hrel
    obtain ⟨wi, rfl⟩ : ∃ wo : World, wo = wr := ⟨_, rfl⟩
    have hl64 : xs.length ≤ 64 := by have := hpc.2; omega
    have HP := Lib.hid hpc
    have HO := Lib.hid hown
    have HX := Lib.hid hx
    clear hpc hown hx
    by_cases htn : t < n
    · have g1 : decide ((t : Int) < (n : Int)) = true := by simp; omega
      go_wp2_with (at_builtin; refine wp_app1 rfl _ _ rfl W0.heap.size _ xs rfl HO.out _ t rfl rfl (by omega) HX.out.size ?_; intro v' w1 hown1 hb1)
      have HO1 := Lib.hid hown1
      have HX1 := Lib.hid (show Ext W0 w1 from Below.trans HX.out hb1)
      clear hown1 hb1
      obtain ⟨u0, hu0⟩ : ∃ u0 : Value, u0 = v' := ⟨_, rfl⟩
      go_loopw [7] (fun x wr => ∃ u : Nat, x = .int .i64 u ∧ t + 1 ≤ u ∧ u ≤ n ∧ Wi (tq rs) (yq rs) M t (u - 1) ∧ Ext w1 wr) (fun x _ => n - (intOf x).toNat)
      case atStart => exact ⟨t + 1, by go_num, by omega, by omega, Wi.two (by omega), Ext.refl _⟩
      case round =>
        obtain ⟨u, rfl, hu1, hu2, hw, hx⟩ := hrel
        obtain ⟨wj, rfl⟩ : ∃ wo : World, wo = wr := ⟨_, rfl⟩
        have HW := Lib.hid hw
        have HXJ := Lib.hid hx
        clear hw hx
        by_cases hun : u < n
        · have g2 : decide ((u : Int) < (n : Int)) = true := by simp; omega
          have s1 := fun w => rd_slice_lh bb oo n c t (u + 1) w (by omega) (by omega) (by omega)
          have r1 : (((u + 1 : Nat) : Int)) = (u : Int) + 1 := by omega
          rw [r1] at s1
          have w1' : IntKind.i64.wrap ((u : Int) + 1) = (u : Int) + 1 := IntWalk.i64_in _ (by omega)
          have k3 := fun w' (hh : Ext wj w') => zcells ((E3.out.below (bt HX1.out HXJ.out)).below hh)
          have hst : Ext wj wj.drew := Ext.drew _
          clear r1
          go_upto_region 6 with fail
          refine wp_region_adv 11 [] [(0, true, some 19, none), (1, true, some 20, none), (2, true, some 21, none), (3, true, some 22, none), (4, true, some 23, none), (5, true, some 24, some (23, true)), (6, true, some 25, some (23, true)), (7, true, some 26, some (23, true)), (8, true, some 27, some (23, true)), (9, true, some 28, some (23, true)), (10, true, some 29, some (23, true))] (by kernel_rfl) (by kernel_rfl) (by kernel_rfl) (by intro it hit; (repeat (rcases List.mem_cons.1 hit with rfl | hit; (focus (intro o ho ev w; injection ho with ho; subst ho; kernel_rfl)))); cases hit) (fun _ _ _ _ _ => ⟨fun h => h, fun h => h⟩) hst ?_
          repeat (first | (refine wpSeq_pure (v := ?_) rfl ?_ ?_; rotate_left 1; (focus (intro wq_ hSq_; (try dsimp only at hSq_); go_simp; (try with_reducible rfl); done)); (try simp only [Act.put, List.setIfInBounds_toArray, List.set_cons_zero, List.set_cons_succ])) | (refine wpSeq_pureG (v := ?_) rfl rfl ?_ ?_; rotate_left 1; (focus (intro wq_ hSq_; (try dsimp only at hSq_); go_simp; (try with_reducible rfl); done)); (try simp only [Act.put, List.setIfInBounds_toArray, List.set_cons_zero, List.set_cons_succ])) | (refine wpSeq_off rfl rfl ?_; (try simp only [Act.put, List.setIfInBounds_toArray, List.set_cons_zero, List.set_cons_succ])))
          intro wz gz sz_
          (try simp only [endJ, List.drop_succ_cons, List.drop_zero])
          have HZ := Lib.hid (show Ext w1 wz from bt HXJ.out sz_)
          clear s1 w1' k3 hst gz sz_
          go_wp2_with fail
          refine (zwithin_any _ _ _ rs t _ M s wz ((H.out.below (bt HB0.out (bt HX1.out HZ.out))).sub (by omega) (by omega)) HV.out (by omega) (by have := HL.out; omega) (HM.out.below (bt HB0.out (bt HX1.out HZ.out))) HS.out HM0.out).mono ?_
          rintro e w5 ⟨v5, rfl, hv5, hb5⟩
          rw [show t + (u + 1 - t - 1) = u by omega] at hv5
          have HB5 := Lib.hid (show Ext w1 w5 from bt HZ.out hb5)
          clear hb5
          by_cases hwi : Wi (tq rs) (yq rs) M t u
          · rw [wiB_t hwi] at hv5
            subst hv5
            have HW2 := Lib.hid hwi
            clear hwi
            go_wp2
            go_roundw
            case rel => exact ⟨u + 1, by go_num, by omega, by omega, HW2.out, HB5.out⟩
            case measure => first | (simp [intOf]; done) | (simp [intOf]; omega)
          · rw [wiB_f hwi] at hv5
            subst hv5
            have HP2 := Lib.hid (HP.out.snoc htn (by omega) HW.out (fun _ => hwi))
            have HO5 := Lib.hid (HO1.out.below HB5.out)
            clear hwi
            go_wp2
            go_roundw
            case rel => exact ⟨u, xs ++ [t], rfl, hu2, HP2.out, HO5.out, bt HX1.out HB5.out⟩
            case measure => first | (simp [intOf]; done) | (simp [intOf]; omega)
        · have g2 : decide ((u : Int) < (n : Int)) = false := by simp; omega
          have hun2 : u = n := by omega
          have HP2 := Lib.hid (HP.out.snoc htn (by omega) HW.out (fun h => absurd h hun))
          have hst : Ext wj wj.drew := Ext.drew _
          go_upto_region 6 with fail
          refine wp_region_adv 11 [] [(0, true, some 19, none), (1, true, some 20, none), (2, true, some 21, none), (3, true, some 22, none), (4, true, some 23, none), (5, true, some 24, some (23, true)), (6, true, some 25, some (23, true)), (7, true, some 26, some (23, true)), (8, true, some 27, some (23, true)), (9, true, some 28, some (23, true)), (10, true, some 29, some (23, true))] (by kernel_rfl) (by kernel_rfl) (by kernel_rfl) (by intro it hit; (repeat (rcases List.mem_cons.1 hit with rfl | hit; (focus (intro o ho ev w; injection ho with ho; subst ho; kernel_rfl)))); cases hit) (fun _ _ _ _ _ => ⟨fun h => h, fun h => h⟩) hst ?_
          repeat (first | (refine wpSeq_pure (v := ?_) rfl ?_ ?_; rotate_left 1; (focus (intro wq_ hSq_; (try dsimp only at hSq_); go_simp; (try with_reducible rfl); done)); (try simp only [Act.put, List.setIfInBounds_toArray, List.set_cons_zero, List.set_cons_succ])) | (refine wpSeq_pureG (v := ?_) rfl rfl ?_ ?_; rotate_left 1; (focus (intro wq_ hSq_; (try dsimp only at hSq_); go_simp; (try with_reducible rfl); done)); (try simp only [Act.put, List.setIfInBounds_toArray, List.set_cons_zero, List.set_cons_succ])) | (refine wpSeq_off rfl rfl ?_; (try simp only [Act.put, List.setIfInBounds_toArray, List.set_cons_zero, List.set_cons_succ])))
          intro wz gz sz_
          (try simp only [endJ, List.drop_succ_cons, List.drop_zero])
          have HZ := Lib.hid (show Ext w1 wz from bt HXJ.out sz_)
          have HO5 := Lib.hid (HO1.out.below HZ.out)
          clear hst gz sz_ hun2
          go_wp2
          go_roundw
          case rel => exact ⟨u, xs ++ [t], rfl, hu2, HP2.out, HO5.out, bt HX1.out HZ.out⟩
          case measure => first | (simp [intOf]; done) | (simp [intOf]; omega)
    · have : t = n := by omega
      have g1 : decide ((t : Int) < (n : Int)) = false := by simp; omega
      subst this
      obtain ⟨A', n', c', rfl, hsl⟩ := HO.out.sl
      have HSL := Lib.hid hsl
      clear hsl
      go_wp2
      go_returns
      exact ⟨_, rfl, ⟨xs, A', n', c', rfl, HSL.out, by rw [HL.out]; exact HP.out.done (by omega)⟩, bt HB0.out HX.out⟩
end Go.Proofs.Tb
