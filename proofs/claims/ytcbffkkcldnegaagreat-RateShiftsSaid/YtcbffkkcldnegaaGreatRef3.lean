/- Contracts of the reference for rates: in, Valid. (With what follows it, in one text.) -/
import Derived.Test.YtcbffkkcldnegaaGreatRate1
import Derived.Test.YtcbffkkcldnegaaGreatRate3
import Derived.Test.YtcbffkkcldnegaaGreatRef2
import Derived.Test.YtcbffkkcldnegaaGreatLaw1
import Derived.Test.YtcbffkkcldnegaaGreatRateE
import Derived.Deep.DeepCutAuto
set_option linter.unusedVariables false
set_option linter.unusedSimpArgs false
/- Contracts of the reference for rates: in, Valid. -/
namespace Go.Proofs.Tb
open Go.RowKit
attribute [local go_sem] cell_set_same

def inB (v l h : Int) : Bool := decide (l ≤ v) && decide (v ≤ h)
theorem inB_t {v l h : Int} (h1 : l ≤ v) (h2 : v ≤ h) : inB v l h = true := by unfold inB; simp [h1, h2]
theorem inB_f {v l h : Int} (h1 : ¬ (l ≤ v ∧ v ≤ h)) : inB v l h = false := by unfold inB; simp; omega
theorem ret_bool {a b : Bool} (h : a = b) : Ending.returned (.bool a) = .returned (.bool b) := by rw [h]
theorem zin_any (v l h : Int) (w : World) : Calls Tryz.prog 41 #[.int .i64 v, .int .i64 l, .int .i64 h] w fun e w' => e = .returned (.bool (inB v l h)) ∧ w' = w := by
  by_cases h1 : l ≤ v
  · by_cases h2 : v ≤ h
    · have d2 : decide (v ≤ h) = true := by simpa using h2
      have HE := Lib.hid (inB_t h1 h2)
      go_enter Tryz.func41, Tryz.ntmps41
      go_wp2
      go_returns
      exact ⟨ret_bool HE.out.symm, rfl⟩
    · have d2 : decide (v ≤ h) = false := by simpa using h2
      have HE := Lib.hid (inB_f (v := v) (l := l) (h := h) (by omega))
      go_enter Tryz.func41, Tryz.ntmps41
      go_wp2
      go_returns
      exact ⟨ret_bool HE.out.symm, rfl⟩
  · have d1 : decide (l ≤ v) = false := by simpa using h1
    have HE := Lib.hid (inB_f (v := v) (l := l) (h := h) (by omega))
    go_enter Tryz.func41, Tryz.ntmps41
    go_wp2
    go_returns
    exact ⟨ret_bool HE.out.symm, rfl⟩

set_option maxHeartbeats 3200000 in
set_option maxRecDepth 100000 in
theorem zvld_any (A : Option Addr) (n c : Nat) (rs : List Rdg) (w : World) (h : Rd w A n c rs) :
    Calls Tryz.prog 9 #[.slice A n c] w (Ret (fun v _ => v = .bool (vld rs)) w) := by
  have hn := h.le
  have hc := h.cap
  have hl := h.len
  have H := Lib.hid h
  clear h
  by_cases g0 : 2 ≤ n ∧ n ≤ 64
  · have HC : Hid (∀ W : World, Calls Tryz.prog 41 #[.int .i64 (n : Int), .int .i64 2, .int .i64 64] W fun e w' => e = .returned (.bool true) ∧ W = w') := fun W => by
      have := zin_any (n : Int) 2 64 W
      rw [inB_t (by omega) (by omega)] at this
      exact this.mono fun e w' h => ⟨h.1, h.2.symm⟩
    have HL := Lib.hid hl
    have G0 := Lib.hid g0
    clear hl g0
    go_enter Tryz.func9, Tryz.ntmps9
    go_wp2_with (go_at_call 41; refine (HC.out _).mono ?_; rintro e w' ⟨rfl, rfl⟩)
    go_loopw [3] (fun i wr => ∃ k : Nat, k ≤ n ∧ (∀ j, j < k → okAt rs j) ∧ i = .int .i64 k ∧ Below w.heap.size w wr) (fun i _ => n - (intOf i).toNat)
    case atStart => exact ⟨0, Nat.zero_le _, fun j hj => absurd hj (by omega), rfl, Below.refl _ _⟩
    case round =>
      obtain ⟨k, hk, hok, rfl, hbw⟩ := hrel
      have HK := Lib.hid hok
      clear hok
      by_cases hkn : k < n
      · have g1 : decide ((k : Int) < (n : Int)) = true := by simp; omega
        obtain ⟨b, o, rfl, hcell⟩ := (H.out.below hbw).at_ (by omega)
        obtain ⟨hct, hcy⟩ := hcell k hkn
        have hcp := (hcell (k - 1) (by omega)).1
        obtain ⟨t1, t2, y1, y2⟩ := H.out.getD_rng k
        have HF := Lib.hid (vld_false (rs := rs))
        have HNOK : Hid (¬ okAt rs k → ¬ Vld rs) := fun hno hv => hno (hv.2.2 k (by have := HL.out; omega))
        obtain ⟨t, ht⟩ : ∃ t, (rs.getD k (0, 0)).1 = t := ⟨_, rfl⟩
        obtain ⟨y, hy⟩ : ∃ t, (rs.getD k (0, 0)).2 = t := ⟨_, rfl⟩
        obtain ⟨p, hp⟩ : ∃ t, (rs.getD (k - 1) (0, 0)).1 = t := ⟨_, rfl⟩
        rw [ht] at hct t1 t2
        rw [hy] at hcy y1 y2
        rw [hp] at hcp
        have HOK2 : Hid (okAt rs k ↔ (-1000000 ≤ t ∧ t ≤ 1000000 ∧ -1000000 ≤ y ∧ y ≤ 1000000 ∧ (0 < k → p < t))) := by
          show okAt rs k ↔ _
          unfold okAt
          rw [ht, hy, hp]
        have HW1 : Hid (∀ nq, Below w.heap.size w (wr.drewN nq)) := fun nq => ⟨hbw.os, hbw.tape, hbw.output, hbw.size, hbw.block⟩
        clear ht hy hp hcell
        have HIT := Lib.hid (fun W : World => zin_any t (-1000000) 1000000 W)
        have HIY := Lib.hid (fun W : World => zin_any y (-1000000) 1000000 W)
        by_cases g2 : -1000000 ≤ t ∧ t ≤ 1000000
        · have HT : Hid (∀ W : World, Calls Tryz.prog 41 #[.int .i64 t, .int .i64 (-1000000), .int .i64 1000000] W fun e w' => e = .returned (.bool true) ∧ w' = W) := fun W => by
            have := HIT.out W
            rw [inB_t g2.1 g2.2] at this
            exact this
          by_cases g3 : -1000000 ≤ y ∧ y ≤ 1000000
          · have HY : Hid (∀ W : World, Calls Tryz.prog 41 #[.int .i64 y, .int .i64 (-1000000), .int .i64 1000000] W fun e w' => e = .returned (.bool true) ∧ w' = W) := fun W => by
              have := HIY.out W
              rw [inB_t g3.1 g3.2] at this
              exact this
            by_cases hk0 : 0 < k
            · have hk1 : decide ((0 : Int) < (k : Int)) = true := by simp; omega
              have q0 : (0 : Int) ≤ (k : Int) - 1 := by omega
              have q4 : (1 : Int) ≤ (k : Int) := by omega
              have q5 : 1 ≤ k := hk0
              have q6 : (k : Int) ≤ (n : Int) := by omega
              have q1 : (k : Int) - 1 < (n : Int) := by omega
              have q2 : ((k : Int) - 1).toNat = k - 1 := by omega
              have q3 : IntKind.i64.wrap ((k : Int) - 1) = (k : Int) - 1 := IntWalk.i64_in _ (by omega)
              by_cases g5 : t ≤ p
              · have d5 : decide (t ≤ p) = true := by simpa using g5
                have HNO := Lib.hid (HNOK.out (by rw [HOK2.out]; intro h; have := h.2.2.2.2 hk0; omega))
                clear g2 g3
                go_wp2
                go_quiet ((first | (go_at_call_of 41 t; exact Calls.quiet_of_same (HT.out _)) | (go_at_call_of 41 y; exact Calls.quiet_of_same (HY.out _))))
                go_wp2
                go_returns
                exact ⟨_, rfl, by rw [HF.out HNO.out]; rfl, HW1.out _⟩
              · have d5 : decide (t ≤ p) = false := by simpa using g5
                have HGO := Lib.hid (HOK2.out.2 ⟨g2.1, g2.2, g3.1, g3.2, fun _ => by omega⟩)
                clear g2 g3
                go_wp2
                go_quiet ((first | (go_at_call_of 41 t; exact Calls.quiet_of_same (HT.out _)) | (go_at_call_of 41 y; exact Calls.quiet_of_same (HY.out _))))
                clear q2 q3
                go_wp2
                go_roundw
                case rel => exact ⟨k + 1, by omega, fun j hj => by rcases Nat.lt_or_eq_of_le (Nat.le_of_lt_succ hj) with h | h; exact HK.out j h; rw [h]; exact HGO.out, by go_num, HW1.out _⟩
                case measure => simp [intOf]; omega
            · have hk1 : decide ((0 : Int) < (k : Int)) = false := by simp; omega
              have HGO := Lib.hid (HOK2.out.2 ⟨g2.1, g2.2, g3.1, g3.2, fun h => by omega⟩)
              clear g2 g3
              go_wp2
              go_quiet ((first | (go_at_call_of 41 t; exact Calls.quiet_of_same (HT.out _)) | (go_at_call_of 41 y; exact Calls.quiet_of_same (HY.out _))))
              skip
              go_wp2
              go_roundw
              case rel => exact ⟨k + 1, by omega, fun j hj => by rcases Nat.lt_or_eq_of_le (Nat.le_of_lt_succ hj) with h | h; exact HK.out j h; rw [h]; exact HGO.out, by go_num, HW1.out _⟩
              case measure => simp [intOf]; omega
          · have HY : Hid (∀ W : World, Calls Tryz.prog 41 #[.int .i64 y, .int .i64 (-1000000), .int .i64 1000000] W fun e w' => e = .returned (.bool false) ∧ w' = W) := fun W => by
              have := HIY.out W
              rw [inB_f g3] at this
              exact this
            have HNO := Lib.hid (HNOK.out (by rw [HOK2.out]; intro h; exact g3 ⟨h.2.2.1, h.2.2.2.1⟩))
            clear g2 g3
            go_wp2
            go_quiet ((first | (go_at_call_of 41 t; exact Calls.quiet_of_same (HT.out _)) | (go_at_call_of 41 y; exact Calls.quiet_of_same (HY.out _))))
            go_wp2
            go_returns
            exact ⟨_, rfl, by rw [HF.out HNO.out]; rfl, HW1.out _⟩
        · have HT : Hid (∀ W : World, Calls Tryz.prog 41 #[.int .i64 t, .int .i64 (-1000000), .int .i64 1000000] W fun e w' => e = .returned (.bool false) ∧ w' = W) := fun W => by
            have := HIT.out W
            rw [inB_f g2] at this
            exact this
          have HNO := Lib.hid (HNOK.out (by rw [HOK2.out]; intro h; exact g2 ⟨h.1, h.2.1⟩))
          clear g2
          go_wp2
          go_quiet ((first | (go_at_call_of 41 t; exact Calls.quiet_of_same (HT.out _)) | (go_at_call_of 41 y; exact Calls.quiet_of_same (HIY.out _))))
          go_wp2
          go_returns
          exact ⟨_, rfl, by rw [HF.out HNO.out]; rfl, HW1.out _⟩
      · have g1 : decide ((k : Int) < (n : Int)) = false := by simp; omega
        have : k = n := by omega
        subst this
        have HV : Hid (Vld rs) := ⟨by rw [HL.out]; exact G0.out.1, by rw [HL.out]; exact G0.out.2, fun j hj => HK.out j (by have := HL.out; omega)⟩
        go_wp2
        go_returns
        exact ⟨_, rfl, by rw [vld_true HV.out]; rfl, hbw⟩
  · have HC : Hid (∀ W : World, Calls Tryz.prog 41 #[.int .i64 (n : Int), .int .i64 2, .int .i64 64] W fun e w' => e = .returned (.bool false) ∧ W = w') := fun W => by
      have := zin_any (n : Int) 2 64 W
      rw [inB_f (by omega)] at this
      exact this.mono fun e w' h => ⟨h.1, h.2.symm⟩
    have HF := Lib.hid (vld_false (rs := rs) (fun hv => g0 ⟨by have := hv.1; omega, by have := hv.2.1; omega⟩))
    clear hl g0
    go_enter Tryz.func9, Tryz.ntmps9
    go_wp2_with (go_at_call 41; refine (HC.out _).mono ?_; rintro e w' ⟨rfl, rfl⟩)
    go_returns
    exact ⟨_, rfl, by rw [HF.out]; rfl, Below.refl _ _⟩
end Go.Proofs.Tb
/- Contracts of the reference for rates: whole, Slope. -/
namespace Go.Proofs.Tb
open Go.RowKit
attribute [local go_sem] cell_set_same

/-- v is the fraction x, in lowest terms, of size at most s. -/
def ZR (w : World) (v : Value) (x : Rat) (s : Nat) : Prop := ZQ w v x.num (x.den : Int) ∧ s10 x.num ≤ s ∧ s10 (x.den : Int) ≤ s
theorem s10_lown {p q : Int} (hq : 0 < q) : s10 (lown p q) ≤ s10 p := by
  rw [lown_q hq, qv_num hq]
  unfold s10
  refine dl_mono BT two_BT _ _ ?_
  rw [Int.natAbs_ediv_of_dvd (Int.gcd_dvd_left _ _)]
  exact Nat.div_le_self _ _
theorem s10_lowd {p q : Int} (hq : 0 < q) : s10 (lowd p q) ≤ s10 q := by
  rw [lowd_q hq, qv_den hq]
  unfold s10
  refine dl_mono BT two_BT _ _ ?_
  rw [Int.natAbs_ediv_of_dvd (Int.gcd_dvd_right _ _)]
  exact Nat.div_le_self _ _
theorem ZQ.r {w : World} {v : Value} {p q : Int} {s : Nat} (hq : 0 < q) (h : ZQ w v (lown p q) (lowd p q)) (h1 : s10 p ≤ s) (h2 : s10 q ≤ s) : ZR w v (qv p q) s :=
  ⟨by rw [← lown_q hq, ← lowd_q hq]; exact h, by rw [← lown_q hq]; exact Nat.le_trans (s10_lown hq) h1, by rw [← lowd_q hq]; exact Nat.le_trans (s10_lowd hq) h2⟩

set_option maxHeartbeats 800000 in
theorem zwh_any (n : Int) (w : World)  (h1 : -9223372036854775808 ≤ n) (h2 : n ≤ 9223372036854775807) :
    Calls Tryz.prog 47 #[.int .i64 n] w (Ret (fun v w' => ZQ w' v n 1) w) := by
  go_enter Tryz.func47, Tryz.ntmps47
  go_wp2_with fail
  obtain ⟨W0, hW0⟩ : ∃ W0, W0 = (w).alloc (.cells #[.bool false, .slice none 0 0, .bool false, .slice none 0 0] TQ) := ⟨_, rfl⟩
  have b0 : Blk W0 (w.heap.size) TQ #[.bool false, .slice none 0 0, .bool false, .slice none 0 0] := by rw [hW0]; exact Blk.new_ _ _ rfl
  have hbw : Below w.heap.size w W0 := by rw [hW0]; go_grown
  rw [← hW0]
  clear hW0
  have hst : Held (w.heap.size) 4 TQ W0 W0 := b0.heldS
  have r1 := (rules (w.heap.size) 4 TQ W0).some
  have r2 := (rules (w.heap.size) 4 TQ W0).free
  clear b0
  have bw0 : Below w.heap.size w W0 := hbw
  refine (zwhole_any n _ (by omega) (by omega)).mono ?_; rintro e w1 ⟨v1, rfl, ⟨A1_0, n1_0, c1_0, A1_1, n1_1, c1_1, rfl, hx1_0, hx1_1, hp1⟩, hb1⟩; have hh1 : Held (w.heap.size) 4 TQ W0 w1 := hst.trans_ hb1; have bw1 := bt bw0 hb1
  go_wp2_with fail
  (try simp only [Exit.inBlock, Exit.then])
  refine bodyPost_ret (v := .agg #[.bool (ng n), .slice A1_0 n1_0 c1_0, .bool (ng 1), .slice A1_1 n1_1 c1_1]) (by simp [results, Tryz.results47, go_sem, r1 _ hh1]) rfl ?_
  have hst2 := Held.set_ (Held.set_ (Held.set_ (Held.set_ (hh1.here) 0 (.bool (ng n))) 1 (.slice A1_0 n1_0 c1_0)) 2 (.bool (ng 1))) 3 (.slice A1_1 n1_1 c1_1)
  exact ⟨_, rfl, ⟨_, _, _, _, _, _, rfl, (hx1_0).held hst2 (by decide), (hx1_1).held hst2 (by decide), (by decide)⟩, (hh1.trans2 hst2).below hbw (by omega)⟩

/-- The slope from reading i to reading j. -/
def slQ (rs : List Rdg) (i j : Nat) : Rat := (yq rs j - yq rs i) / (tq rs j - tq rs i)
theorem slQ_qv {rs : List Rdg} {i j : Nat} (hne : tm rs j - tm rs i ≠ 0) : qv (ofs rs j - ofs rs i) (tm rs j - tm rs i) = slQ rs i j := by
  unfold slQ yq tq
  rw [qv_div, Rat.intCast_sub, Rat.intCast_sub]
theorem slQ_comm (rs : List Rdg) (i j : Nat) : slQ rs i j = slQ rs j i := by
  unfold slQ
  by_cases h : tq rs j - tq rs i = 0
  · have h2 : tq rs i - tq rs j = 0 := by grind
    rw [h, h2]
    grind
  · grind
theorem Vld.tm_bd {rs : List Rdg} (h : Vld rs) {i : Nat} (hi : i < rs.length) : -1000000 ≤ tm rs i ∧ tm rs i ≤ 1000000 ∧ -1000000 ≤ ofs rs i ∧ ofs rs i ≤ 1000000 := by
  have := h.2.2 i hi
  unfold okAt at this
  unfold tm ofs
  omega
theorem Vld.tm_ne {rs : List Rdg} (h : Vld rs) {i j : Nat} (hi : i < rs.length) (hj : j < rs.length) (hne : i ≠ j) : tm rs j - tm rs i ≠ 0 := by
  rcases Nat.lt_or_gt_of_ne hne with h1 | h1
  · have := h.mono_tm h1 hj; omega
  · have := h.mono_tm h1 hi; omega

set_option maxHeartbeats 1600000 in
set_option maxRecDepth 100000 in
theorem zslope_any (A : Option Addr) (n c : Nat) (rs : List Rdg) (I J : Nat) (w : World) (h : Rd w A n c rs) (hv : Vld rs) (hi : I < n) (hj : J < n) (hne : I ≠ J) :
    Calls Tryz.prog 52 #[.slice A n c, .int .i64 (I : Int), .int .i64 (J : Int)] w (Ret (fun v w' => ZR w' v (slQ rs I J) 10) w) := by
  have hn := h.le
  have hc := h.cap
  have hl := h.len
  obtain ⟨ti1, ti2, yi1, yi2⟩ := hv.tm_bd (i := I) (by omega)
  obtain ⟨tj1, tj2, yj1, yj2⟩ := hv.tm_bd (i := J) (by omega)
  have hd := hv.tm_ne (i := I) (j := J) (by omega) (by omega) hne
  have HSQ := Lib.hid (slQ_qv hd)
  obtain ⟨b, o, rfl, _⟩ := h.at_ (by omega)
  have HR := Lib.hid h
  have HKC : Hid (∀ w', Below w.heap.size w w' → w'.cell? ⟨b, o + I * 2, none⟩ = some (.int .i64 (tm rs I)) ∧ w'.cell? ⟨b, o + I * 2 + 1, none⟩ = some (.int .i64 (ofs rs I)) ∧ w'.cell? ⟨b, o + J * 2, none⟩ = some (.int .i64 (tm rs J)) ∧ w'.cell? ⟨b, o + J * 2 + 1, none⟩ = some (.int .i64 (ofs rs J))) := fun w' hb => by
    obtain ⟨b', o', he, hcell⟩ := (HR.out.below hb).at_ (by omega)
    injection he with he
    injection he with h1 h2 _
    subst h1 h2
    exact ⟨(hcell I hi).1, (hcell I hi).2, (hcell J hj).1, (hcell J hj).2⟩
  obtain ⟨ti, hti⟩ : ∃ x, tm rs I = x := ⟨_, rfl⟩
  obtain ⟨yi, hyi⟩ : ∃ x, ofs rs I = x := ⟨_, rfl⟩
  obtain ⟨tj, htj⟩ : ∃ x, tm rs J = x := ⟨_, rfl⟩
  obtain ⟨yj, hyj⟩ : ∃ x, ofs rs J = x := ⟨_, rfl⟩
  rw [hti, hyi, htj, hyj] at HSQ HKC
  rw [hti, htj] at hd
  rw [hti] at ti1 ti2
  rw [hyi] at yi1 yi2
  rw [htj] at tj1 tj2
  rw [hyj] at yj1 yj2
  clear hti hyi htj hyj h hv hl
  obtain ⟨Y, hY⟩ : ∃ x, yj - yi = x := ⟨_, rfl⟩
  obtain ⟨T, hT⟩ : ∃ x, tj - ti = x := ⟨_, rfl⟩
  have q1 : IntKind.i64.wrap (yj - yi) = Y := by rw [IntWalk.i64_in _ (by omega)]; exact hY
  have q2 : IntKind.i64.wrap (tj - ti) = T := by rw [IntWalk.i64_in _ (by omega)]; exact hT
  have y1 : -2000000 ≤ Y := by omega
  have y2 : Y ≤ 2000000 := by omega
  have t1 : -2000000 ≤ T := by omega
  have t2 : T ≤ 2000000 := by omega
  rw [hT] at hd
  rw [hY, hT] at HSQ
  have HD := Lib.hid hd
  have hi' : (I : Int) < (n : Int) := by omega
  have hj' : (J : Int) < (n : Int) := by omega
  have HY5 := Lib.hid (s10_small Y (by omega) (by omega))
  have HT5 := Lib.hid (s10_small T (by omega) (by omega))
  have H15 := Lib.hid (s10_small 1 (by omega) (by omega))
  obtain ⟨P, hP⟩ : ∃ x, rn (Y * 1) (1 * T) = x := ⟨_, rfl⟩
  obtain ⟨Q, hQ⟩ : ∃ x, rd (1 * T) = x := ⟨_, rfl⟩
  obtain ⟨P2, hP2⟩ : ∃ x, lown P Q = x := ⟨_, rfl⟩
  obtain ⟨Q2, hQ2⟩ : ∃ x, lowd P Q = x := ⟨_, rfl⟩
  have HPS := Lib.hid (show s10 P ≤ 10 by rw [← hP, s10_rn, Int.mul_one]; have := HY5.out; omega)
  have HQS := Lib.hid (show s10 Q ≤ 10 by rw [← hQ, s10_rd, Int.one_mul]; have := HT5.out; omega)
  have HQP := Lib.hid (show 0 < Q by rw [← hQ, Int.one_mul]; exact rd_pos hd)
  have HQE := Lib.hid (show qv P Q = slQ rs I J by rw [← hP, ← hQ, Int.mul_one, Int.one_mul, qv_rn hd]; exact HSQ.out)
  have HDIV : Hid (∀ a b W, ZQ W a Y 1 → ZQ W b T 1 → Calls Tryz.prog 44 #[a, b] W (Ret (fun v w' => ZQ w' v P Q) W)) := fun a b W ha hb => by
    rw [← hP, ← hQ]
    exact zqdiv_any a b Y 1 T 1 W ha hb HD.out (by have := HY5.out; have := HT5.out; have := H15.out; omega)
  have HLOW : Hid (∀ a W, ZQ W a P Q → Calls Tryz.prog 43 #[a] W (Ret (fun v w' => ZQ w' v P2 Q2) W)) := fun a W ha => by
    rw [← hP2, ← hQ2]
    exact zlowest_any a P Q W ha (Nat.le_trans HPS.out (by omega)) (Nat.le_trans HQS.out (by omega))
  have HP2 := Lib.hid hP2
  have HQ2 := Lib.hid hQ2
  clear hP hQ hP2 hQ2 HY5 HT5 H15 HSQ
  clear hd hY hT hne ti1 ti2 yi1 yi2 tj1 tj2 yj1 yj2
  go_enter Tryz.func52, Tryz.ntmps52
  go_wp2
  refine wp_world (fun W0 => Blk W0 (w.heap.size) TQ #[.bool false, .slice none 0 0, .bool false, .slice none 0 0] ∧ Below w.heap.size w W0) (by exact ⟨Blk.new_ _ _ rfl, by go_grown⟩) ?_
  rintro W0 ⟨b0, hbw⟩
  have hst : Held (w.heap.size) 4 TQ W0 W0.drew := b0.heldS.drew
  have r1 := (rules (w.heap.size) 4 TQ W0).some
  have r2 := (rules (w.heap.size) 4 TQ W0).free
  have k0 := fun w' (hh : Held (w.heap.size) 4 TQ W0 w') => HKC.out w' (hh.below hbw (Nat.le_refl _))
  clear b0
  have bw0 : Below w.heap.size w W0.drew := hbw.drew
  go_region_held3 (fun w' => Held (w.heap.size) 4 TQ W0 w') (first | assumption | exact Held.trans_ (by assumption) (by assumption) | exact Held.set_ (Held.set_ (Held.set_ (Held.set_ ((by assumption)) _ _) _ _) _ _) _ _)
    (first | (go_at_call 43; have tk := hb3; refine (HLOW.out _ _ ⟨_, _, _, _, _, _, rfl, hx3_0, hx3_1, hp3⟩).mono ?_; rintro e w4 ⟨v4, rfl, ⟨A4_0, n4_0, c4_0, A4_1, n4_1, c4_1, rfl, hx4_0, hx4_1, hp4⟩, hb4⟩; have hh4 : Held (w.heap.size) 4 TQ W0 w4 := hh3.trans_ hb4; have bw4 := bt bw3 hb4) | (go_at_call 44; have tk := hb2; refine (HDIV.out _ _ _ ⟨_, _, _, _, _, _, rfl, hx1_0.below hb2, hx1_1.below hb2, hp1⟩ ⟨_, _, _, _, _, _, rfl, hx2_0, hx2_1, hp2⟩).mono ?_; rintro e w3 ⟨v3, rfl, ⟨A3_0, n3_0, c3_0, A3_1, n3_1, c3_1, rfl, hx3_0, hx3_1, hp3⟩, hb3⟩; have hh3 : Held (w.heap.size) 4 TQ W0 w3 := hh2.trans_ hb3; have bw3 := bt bw2 hb3) | (go_at_call 47; have tk := hb1; refine (zwh_any T _ (by omega) (by omega)).mono ?_; rintro e w2 ⟨v2, rfl, ⟨A2_0, n2_0, c2_0, A2_1, n2_1, c2_1, rfl, hx2_0, hx2_1, hp2⟩, hb2⟩; have hh2 : Held (w.heap.size) 4 TQ W0 w2 := hh1.trans_ hb2; have bw2 := bt bw1 hb2) | (go_at_call 47; refine (zwh_any Y _ (by omega) (by omega)).mono ?_; rintro e w1 ⟨v1, rfl, ⟨A1_0, n1_0, c1_0, A1_1, n1_1, c1_1, rfl, hx1_0, hx1_1, hp1⟩, hb1⟩; have hh1 : Held (w.heap.size) 4 TQ W0 w1 := hst.trans_ hb1; have bw1 := bt bw0 hb1))
  go_wp2
  (try simp only [Exit.inBlock, Exit.then])
  refine bodyPost_ret (v := .agg #[.bool (ng P2), .slice A4_0 n4_0 c4_0, .bool (ng Q2), .slice A4_1 n4_1 c4_1]) (by simp [results, Tryz.results52, go_sem, r1 _ hh4]) rfl ?_
  have hst2 := Held.set_ (Held.set_ (Held.set_ (Held.set_ (hh4.here) 0 (.bool (ng P2))) 1 (.slice A4_0 n4_0 c4_0)) 2 (.bool (ng Q2))) 3 (.slice A4_1 n4_1 c4_1)
  exact ⟨_, rfl, by rw [← HQE.out]; exact ZQ.r HQP.out (by rw [HP2.out, HQ2.out]; exact ⟨_, _, _, _, _, _, rfl, (hx4_0).held hst2 (by decide), (hx4_1).held hst2 (by decide), hp4⟩) HPS.out HQS.out, (hh4.trans2 hst2).below hbw (by omega)⟩
end Go.Proofs.Tb
/- The reference's fractions as rational numbers, with a bound of their sizes: contracts by value. -/
namespace Go.Proofs.Tb
open Go.RowKit

/-- v reads as the rational number x, with at most s digits above and below. -/
def ZX (w : World) (v : Value) (x : Rat) (s : Nat) : Prop := ∃ p q, ZQ w v p q ∧ qv p q = x ∧ s10 p ≤ s ∧ s10 q ≤ s
theorem ZX.form {w : World} {v : Value} {x : Rat} {s : Nat} (h : ZX w v x s) : ∃ b A n c b' A' n' c', v = .agg #[.bool b, .slice A n c, .bool b', .slice A' n' c'] := by
  obtain ⟨p, q, ⟨A, n, c, A', n', c', rfl, _⟩, _⟩ := h
  exact ⟨_, _, _, _, _, _, _, _, rfl⟩
theorem ZX.below {w w' : World} {v : Value} {x : Rat} {s : Nat} (h : ZX w v x s) (hb : Below w.heap.size w w') : ZX w' v x s := by
  obtain ⟨p, q, hq, h1, h2⟩ := h
  exact ⟨p, q, hq.below hb, h1, h2⟩
theorem ZQ.held {w w' : World} {v : Value} {p q : Int} {R k : Nat} {T : TypeId} (h : ZQ w v p q) (hh : Held R k T w w') (hT : TN ≠ T) : ZQ w' v p q := by
  obtain ⟨A, n, c, A', n', c', hv, h1, h2, hq⟩ := h
  exact ⟨A, n, c, A', n', c', hv, h1.held hh hT, h2.held hh hT, hq⟩
theorem ZX.held {w w' : World} {v : Value} {x : Rat} {s : Nat} {R k : Nat} {T : TypeId} (h : ZX w v x s) (hh : Held R k T w w') (hT : TN ≠ T) : ZX w' v x s := by
  obtain ⟨p, q, hq, h1, h2⟩ := h
  exact ⟨p, q, hq.held hh hT, h1, h2⟩
theorem ZX.le {w : World} {v : Value} {x : Rat} {s t : Nat} (h : ZX w v x s) (hst : s ≤ t) : ZX w v x t := by
  obtain ⟨p, q, hq, h1, h2, h3⟩ := h
  exact ⟨p, q, hq, h1, by omega, by omega⟩
theorem ZR.zx {w : World} {v : Value} {x : Rat} {s : Nat} (h : ZR w v x s) : ZX w v x s := ⟨_, _, h.1, qv_self x, h.2.1, h.2.2⟩
theorem ZX.eq {w : World} {v : Value} {x y : Rat} {s : Nat} (h : ZX w v x s) (e : x = y) : ZX w v y s := e ▸ h
theorem s10_addm (x y : Int) (s : Nat) (h : s10 x ≤ s) (h' : s10 y ≤ s) : s10 (x + y) ≤ s + 1 := by
  unfold s10 at *
  have h1 := dl_add BT two_BT x.natAbs y.natAbs s h h'
  have h2 := dl_mono BT two_BT (x + y).natAbs (x.natAbs + y.natAbs) (Int.natAbs_add_le x y)
  omega
theorem ZQ.q0 {w : World} {v : Value} {p q : Int} (h : ZQ w v p q) : 0 < q := by
  obtain ⟨_, _, _, _, _, _, _, _, _, hq⟩ := h
  exact hq

section
variable {w : World} {a b : Value} {x y : Rat} {s t : Nat}
theorem xmul_any (ha : ZX w a x s) (hb : ZX w b y t) (hs : s + t ≤ 50000000000) : Calls Tryz.prog 46 #[a, b] w (Ret (fun v w' => ZX w' v (x * y) (s + t)) w) := by
  obtain ⟨p, q, h1, rfl, h3, h4⟩ := ha
  obtain ⟨r, u, k1, rfl, k3, k4⟩ := hb
  refine (zqmul_any a b p q r u w h1 k1 (by omega)).mono ?_
  rintro e w' ⟨v, he, hv, hb⟩
  exact ⟨v, he, ⟨_, _, hv, qv_mul _ _ _ _, by have := s10_mul p r; omega, by have := s10_mul q u; omega⟩, hb⟩
theorem xadd_any (ha : ZX w a x s) (hb : ZX w b y t) (hs : s + t ≤ 50000000000) : Calls Tryz.prog 23 #[a, b] w (Ret (fun v w' => ZX w' v (x + y) (s + t + 1)) w) := by
  obtain ⟨p, q, h1, rfl, h3, h4⟩ := ha
  obtain ⟨r, u, k1, rfl, k3, k4⟩ := hb
  refine (zqadd_any a b p q r u w h1 k1 (by omega)).mono ?_
  rintro e w' ⟨v, he, hv, hb⟩
  have q1 := h1.q0
  have q2 := k1.q0
  exact ⟨v, he, ⟨_, _, hv, qv_add (by omega) (by omega), s10_addm _ _ _ (by have := s10_mul p u; omega) (by have := s10_mul r q; omega), by have := s10_mul q u; omega⟩, hb⟩
theorem xsub_any (ha : ZX w a x s) (hb : ZX w b y t) (hs : s + t ≤ 50000000000) : Calls Tryz.prog 45 #[a, b] w (Ret (fun v w' => ZX w' v (x - y) (s + t + 1)) w) := by
  obtain ⟨p, q, h1, rfl, h3, h4⟩ := ha
  obtain ⟨r, u, k1, rfl, k3, k4⟩ := hb
  refine (zqsub_any a b p q r u w h1 k1 (by omega)).mono ?_
  rintro e w' ⟨v, he, hv, hb⟩
  have q1 := h1.q0
  have q2 := k1.q0
  exact ⟨v, he, ⟨_, _, hv, qv_sub (by omega) (by omega), s10_addm _ _ _ (by have := s10_mul p u; omega) (by rw [s10_neg]; have := s10_mul r q; omega), by have := s10_mul q u; omega⟩, hb⟩
theorem xdiv_any (ha : ZX w a x s) (hb : ZX w b y t) (hy : y ≠ 0) (hs : s + t ≤ 50000000000) : Calls Tryz.prog 44 #[a, b] w (Ret (fun v w' => ZX w' v (x / y) (s + t)) w) := by
  obtain ⟨p, q, h1, rfl, h3, h4⟩ := ha
  obtain ⟨r, u, k1, rfl, k3, k4⟩ := hb
  have q1 := h1.q0
  have q2 := k1.q0
  have hr : r ≠ 0 := fun h => hy ((qv_zero (by omega)).2 h)
  refine (zqdiv_any a b p q r u w h1 k1 hr (by omega)).mono ?_
  rintro e w' ⟨v, he, hv, hb⟩
  exact ⟨v, he, ⟨_, _, hv, by rw [qv_rn (Int.mul_ne_zero (by omega) hr), qv_quo], by rw [s10_rn]; have := s10_mul p u; omega, by rw [s10_rd]; have := s10_mul q r; omega⟩, hb⟩
theorem xcmp_any (ha : ZX w a x s) (hb : ZX w b y t) (hs : s + t ≤ 50000000000) : Calls Tryz.prog 17 #[a, b] w (Ret (fun v _ => v = .int .i64 (cmpR x y)) w) := by
  obtain ⟨p, q, h1, rfl, h3, h4⟩ := ha
  obtain ⟨r, u, k1, rfl, k3, k4⟩ := hb
  rw [← sign_cmp h1.q0 k1.q0]
  exact zqcmp_any a b p q r u w h1 k1 (by omega)
theorem xlowest_any (ha : ZX w a x s) (hs : s ≤ 100000000000) : Calls Tryz.prog 43 #[a] w (Ret (fun v w' => ZR w' v x s) w) := by
  obtain ⟨p, q, h1, rfl, h3, h4⟩ := ha
  refine (zlowest_any a p q w h1 (by omega) (by omega)).mono ?_
  rintro e w' ⟨v, he, hv, hb⟩
  exact ⟨v, he, hv.r h1.q0 h3 h4, hb⟩
theorem xfrac_any (ha : ZX w a x s) (hs : s ≤ 100000000000) : Calls Tryz.prog 42 #[a] w (Ret (fun v _ => FracQ x v) w) := by
  obtain ⟨p, q, h1, rfl, h3, h4⟩ := ha
  refine (zfrac_any a p q w h1 (by omega) (by omega)).mono ?_
  rintro e w' ⟨v, he, hv, hb⟩
  exact ⟨v, he, hv.q h1.q0, hb⟩
end
theorem xwhole_any (n : Int) (w : World) (h1 : -9223372036854775808 ≤ n) (h2 : n ≤ 9223372036854775807) : Calls Tryz.prog 21 #[.int .i64 n] w (Ret (fun v w' => ZX w' v (n : Rat) 5) w) := by
  refine (zwhole_any n w h1 h2).mono ?_
  rintro e w' ⟨v, he, hv, hb⟩
  exact ⟨v, he, ⟨_, _, hv, qv_one n, s10_small n h1 h2, s10_small 1 (by omega) (by omega)⟩, hb⟩
theorem xwh_any (n : Int) (w : World) (h1 : -9223372036854775808 ≤ n) (h2 : n ≤ 9223372036854775807) : Calls Tryz.prog 47 #[.int .i64 n] w (Ret (fun v w' => ZX w' v (n : Rat) 5) w) := by
  refine (zwh_any n w h1 h2).mono ?_
  rintro e w' ⟨v, he, hv, hb⟩
  exact ⟨v, he, ⟨_, _, hv, qv_one n, s10_small n h1 h2, s10_small 1 (by omega) (by omega)⟩, hb⟩
theorem xof_any (n d : Int) (w : World) (h1 : -9223372036854775808 ≤ n) (h2 : n ≤ 9223372036854775807) (h3 : 0 < d) (h4 : d ≤ 9223372036854775807) :
    Calls Tryz.prog 18 #[.agg #[.int .i64 n, .int .i64 d]] w (Ret (fun v w' => ZX w' v (qv n d) 5) w) := by
  refine (zof_any n d w h1 h2 h3 h4).mono ?_
  rintro e w' ⟨v, he, hv, hb⟩
  exact ⟨v, he, ⟨_, _, hv, rfl, s10_small n h1 h2, s10_small d (by omega) (by omega)⟩, hb⟩
end Go.Proofs.Tb
/- Contracts of the reference for rates: Error, Of. -/
namespace Go.Proofs.Tb
open Go.RowKit
attribute [local go_sem] cell_set_same
abbrev TQL : TypeId := 40

/-- v reads as a line of the reference. -/
def ZL (w : World) (v : Value) (x y : Rat) (s : Nat) : Prop := ∃ b0 A0 n0 c0 b1 A1 n1 c1 b2 A2 n2 c2 b3 A3 n3 c3,
  v = .agg #[.bool b0, .slice A0 n0 c0, .bool b1, .slice A1 n1 c1, .bool b2, .slice A2 n2 c2, .bool b3, .slice A3 n3 c3] ∧
  ZX w (.agg #[.bool b0, .slice A0 n0 c0, .bool b1, .slice A1 n1 c1]) x s ∧ ZX w (.agg #[.bool b2, .slice A2 n2 c2, .bool b3, .slice A3 n3 c3]) y s
theorem ZL.below {w w' : World} {v : Value} {x y : Rat} {s : Nat} (h : ZL w v x y s) (hb : Below w.heap.size w w') : ZL w' v x y s := by
  obtain ⟨b0, A0, n0, c0, b1, A1, n1, c1, b2, A2, n2, c2, b3, A3, n3, c3, hv, h1, h2⟩ := h
  exact ⟨b0, A0, n0, c0, b1, A1, n1, c1, b2, A2, n2, c2, b3, A3, n3, c3, hv, h1.below hb, h2.below hb⟩
/-- The error of a line at a reading. -/
def erQ (x y : Rat) (t o : Int) : Rat := (o : Rat) - (x * (t : Rat) + y)

set_option maxHeartbeats 1600000 in
set_option maxRecDepth 100000 in
theorem zerror_any (l : Value) (x y : Rat) (s : Nat) (t o : Int) (w : World) (h : ZL w l x y s) (hs : s ≤ 10000000000) (h1 : rngI t) (h2 : rngI o) :
    Calls Tryz.prog 19 #[l, .agg #[.int .i64 t, .int .i64 o]] w (Ret (fun v w' => ZR w' v (erQ x y t o) (2 * s + 12)) w) := by
  obtain ⟨b0, A0, n0, c0, b1, A1, n1, c1, b2, A2, n2, c2, b3, A3, n3, c3, rfl, hl1, hl2⟩ := h
  have HX := Lib.hid hl1
  have HY := Lib.hid hl2
  have H1 := Lib.hid h1
  have H2 := Lib.hid h2
  clear hl1 hl2 h1 h2
  go_enter Tryz.func19, Tryz.ntmps19
  go_wp2
  refine wp_world (fun W0 => Blk W0 w.heap.size TQL #[.bool b0, .slice A0 n0 c0, .bool b1, .slice A1 n1 c1, .bool b2, .slice A2 n2 c2, .bool b3, .slice A3 n3 c3] ∧ Blk W0 (w.heap.size + 1) TRD #[.int .i64 t, .int .i64 o] ∧ Blk W0 (w.heap.size + 1 + 1) TQ #[.bool false, .slice none 0 0, .bool false, .slice none 0 0] ∧ Below w.heap.size w W0) (by exact ⟨((Blk.new_ _ _ rfl).alloc _).alloc _, (Blk.new_ _ _ (by simp)).alloc _, Blk.new_ _ _ (by simp), by go_grown⟩) ?_
  rintro W0 ⟨b0, b1, b2, hbw⟩
  have bw0 : Below w.heap.size w W0.drew := hbw.drew
  have k0 := fun w' (hh : Held (w.heap.size + 1 + 1) 4 TQ W0 w') => (b0.held hh (by omega)).cells
  have k1 := fun w' (hh : Held (w.heap.size + 1 + 1) 4 TQ W0 w') => (b1.held hh (by omega)).cells
  have hst : Held (w.heap.size + 1 + 1) 4 TQ W0 W0.drew := b2.heldS.drew
  simp only [cellsAre, Nat.zero_add, Nat.reduceAdd, and_true] at k0 k1
  have r1 := (rules (w.heap.size + 1 + 1) 4 TQ W0).some
  have r2 := (rules (w.heap.size + 1 + 1) 4 TQ W0).free
  clear b0 b1 b2
  go_region_held3 (fun w' => Held (w.heap.size + 1 + 1) 4 TQ W0 w') (first | assumption | exact Held.trans_ (by assumption) (by assumption) | exact Held.set_ (Held.set_ (Held.set_ (Held.set_ ((by assumption)) _ _) _ _) _ _) _ _)
    (first | (go_at_call 43; have tk := hb5; refine (xlowest_any hx5 (by omega)).mono ?_; rintro e w6 ⟨v6, rfl, hx6, hb6⟩; obtain ⟨d6, A6, n6, c6, d6', A6', n6', c6', rfl⟩ := hx6.zx.form; have hh6 : Held (w.heap.size + 1 + 1) 4 TQ W0 w6 := hh5.trans_ hb6; have bw6 := bt bw5 hb6) | (go_at_call 45; have tk := hb4; refine (xsub_any (((hx1.below hb2).below hb3).below hb4) hx4 (by omega)).mono ?_; rintro e w5 ⟨v5, rfl, hx5, hb5⟩; obtain ⟨d5, A5, n5, c5, d5', A5', n5', c5', rfl⟩ := hx5.form; have hh5 : Held (w.heap.size + 1 + 1) 4 TQ W0 w5 := hh4.trans_ hb5; have bw5 := bt bw4 hb5) | (go_at_call 23; have tk := hb3; refine (xadd_any hx3 (HY.out.below bw3) (by omega)).mono ?_; rintro e w4 ⟨v4, rfl, hx4, hb4⟩; obtain ⟨d4, A4, n4, c4, d4', A4', n4', c4', rfl⟩ := hx4.form; have hh4 : Held (w.heap.size + 1 + 1) 4 TQ W0 w4 := hh3.trans_ hb4; have bw4 := bt bw3 hb4) | (go_at_call 46; have tk := hb2; refine (xmul_any (HX.out.below bw2) hx2 (by omega)).mono ?_; rintro e w3 ⟨v3, rfl, hx3, hb3⟩; obtain ⟨d3, A3, n3, c3, d3', A3', n3', c3', rfl⟩ := hx3.form; have hh3 : Held (w.heap.size + 1 + 1) 4 TQ W0 w3 := hh2.trans_ hb3; have bw3 := bt bw2 hb3) | (go_at_call 47; have tk := hb1; refine (xwh_any t _ H1.out.1 H1.out.2).mono ?_; rintro e w2 ⟨v2, rfl, hx2, hb2⟩; obtain ⟨d2, A2, n2, c2, d2', A2', n2', c2', rfl⟩ := hx2.form; have hh2 : Held (w.heap.size + 1 + 1) 4 TQ W0 w2 := hh1.trans_ hb2; have bw2 := bt bw1 hb2) | (go_at_call 47; refine (xwh_any o _ H2.out.1 H2.out.2).mono ?_; rintro e w1 ⟨v1, rfl, hx1, hb1⟩; obtain ⟨d1, A1, n1, c1, d1', A1', n1', c1', rfl⟩ := hx1.form; have hh1 : Held (w.heap.size + 1 + 1) 4 TQ W0 w1 := hst.trans_ hb1; have bw1 := bt bw0 hb1))
  go_wp2
  (try simp only [Exit.inBlock, Exit.then])
  refine bodyPost_ret (v := .agg #[.bool d6, .slice A6 n6 c6, .bool d6', .slice A6' n6' c6']) (by simp [results, Tryz.results19, go_sem, r1 _ hh6]) rfl ?_
  have hst2 := Held.set_ (Held.set_ (Held.set_ (Held.set_ (hh6.here) 0 (.bool d6)) 1 (.slice A6 n6 c6)) 2 (.bool d6')) 3 (.slice A6' n6' c6')
  exact ⟨_, rfl, ⟨hx6.1.held hst2 (by decide), Nat.le_trans hx6.2.1 (by omega), Nat.le_trans hx6.2.2 (by omega)⟩, (hh6.trans2 hst2).below hbw (by omega)⟩

end Go.Proofs.Tb
/- Contract of the reference for rates: Of. -/
namespace Go.Proofs.Tb
open Go.RowKit
attribute [local go_sem] cell_set_same
set_option maxHeartbeats 1600000 in
set_option maxRecDepth 100000 in
theorem zlof_any (a b c d : Int) (w : World) (h1 : rngI a) (h2 : 0 < b ∧ b ≤ 9223372036854775807) (h3 : rngI c) (h4 : 0 < d ∧ d ≤ 9223372036854775807) :
    Calls Tryz.prog 20 #[.agg #[.int .i64 a, .int .i64 b, .int .i64 c, .int .i64 d]] w (Ret (fun v w' => ZL w' v (qv a b) (qv c d) 5) w) := by
  have H1 := Lib.hid h1
  have H2 := Lib.hid h2
  have H3 := Lib.hid h3
  have H4 := Lib.hid h4
  clear h1 h2 h3 h4
  go_enter Tryz.func20, Tryz.ntmps20
  go_wp2
  refine wp_world (fun W0 => Blk W0 w.heap.size TAL #[.int .i64 a, .int .i64 b, .int .i64 c, .int .i64 d] ∧ Blk W0 (w.heap.size + 1) TQL #[.bool false, .slice none 0 0, .bool false, .slice none 0 0, .bool false, .slice none 0 0, .bool false, .slice none 0 0] ∧ Below w.heap.size w W0) (by exact ⟨(Blk.new_ _ _ rfl).alloc _, Blk.new_ _ _ (by simp), by go_grown⟩) ?_
  rintro W0 ⟨b0, b1, hbw⟩
  have bw0 : Below w.heap.size w W0.drew := hbw.drew
  have k0 := fun w' (hh : Held (w.heap.size + 1) 8 TQL W0 w') => (b0.held hh (by omega)).cells
  have hst : Held (w.heap.size + 1) 8 TQL W0 W0.drew := b1.heldS.drew
  simp only [cellsAre, Nat.zero_add, Nat.reduceAdd, and_true] at k0
  have r1 := (rules (w.heap.size + 1) 8 TQL W0).some
  have r2 := (rules (w.heap.size + 1) 8 TQL W0).free
  clear b0 b1
  go_region_held3 (fun w' => Held (w.heap.size + 1) 8 TQL W0 w') (first | with_reducible assumption | ((repeat with_reducible refine Held.set_ ?_ _ _); with_reducible assumption) | exact Held.trans_ (by with_reducible assumption) (by with_reducible assumption))
    (first | (go_at_call 18; have tk := hb1; refine (xof_any c d _ H3.out.1 H3.out.2 H4.out.1 H4.out.2).mono ?_; rintro e w2 ⟨v2, rfl, hx2, hb2⟩; obtain ⟨d2, A2, n2, c2, d2', A2', n2', c2', rfl⟩ := hx2.form; have hh2 : Held (w.heap.size + 1) 8 TQL W0 w2 := hh1.trans_ hb2; have bw2 := bt bw1 hb2) | (go_at_call 18; refine (xof_any a b _ H1.out.1 H1.out.2 H2.out.1 H2.out.2).mono ?_; rintro e w1 ⟨v1, rfl, hx1, hb1⟩; obtain ⟨d1, A1, n1, c1, d1', A1', n1', c1', rfl⟩ := hx1.form; have hh1 : Held (w.heap.size + 1) 8 TQL W0 w1 := hst.trans_ hb1; have bw1 := bt bw0 hb1))
  go_wp2
  (try simp only [Exit.inBlock, Exit.then])
  refine bodyPost_ret (v := .agg #[.bool d1, .slice A1 n1 c1, .bool d1', .slice A1' n1' c1', .bool d2, .slice A2 n2 c2, .bool d2', .slice A2' n2' c2']) (by simp [results, Tryz.results20, go_sem, r1 _ hh2]) rfl ?_
  have hst2 := Held.set_ (Held.set_ (Held.set_ (Held.set_ (Held.set_ (Held.set_ (Held.set_ (Held.set_ (hh2.here) 0 (.bool d1)) 1 (.slice A1 n1 c1)) 2 (.bool d1')) 3 (.slice A1' n1' c1')) 4 (.bool d2)) 5 (.slice A2 n2 c2)) 6 (.bool d2')) 7 (.slice A2' n2' c2')
  exact ⟨_, rfl, ⟨_, _, _, _, _, _, _, _, _, _, _, _, _, _, _, _, rfl, (hx1.below hb2).held hst2 (by decide), hx2.held hst2 (by decide)⟩, (hh2.trans2 hst2).below hbw (by omega)⟩
end Go.Proofs.Tb
/- Contract of the reference for rates: Worst. -/
namespace Go.Proofs.Tb
open Go.RowKit
attribute [local go_sem] cell_set_same

/-- The greatest absolute error at the first k readings. -/
def wsT (rs : List Rdg) (x y : Rat) : Nat → Rat
  | 0 => 0
  | k + 1 => if wsT rs x y k < rab (erQ x y (tm rs k) (ofs rs k)) then rab (erQ x y (tm rs k) (ofs rs k)) else wsT rs x y k
theorem wsT_t {rs : List Rdg} {x y : Rat} {k : Nat} (h : wsT rs x y k < rab (erQ x y (tm rs k) (ofs rs k))) : rab (erQ x y (tm rs k) (ofs rs k)) = wsT rs x y (k + 1) := (if_pos h).symm
theorem wsT_f {rs : List Rdg} {x y : Rat} {k : Nat} (h : ¬ wsT rs x y k < rab (erQ x y (tm rs k) (ofs rs k))) : wsT rs x y k = wsT rs x y (k + 1) := (if_neg h).symm
theorem zcells {w : World} {g : Nat} {T : TypeId} {a b c d : Value} (h : Blk w g T #[a, b, c, d]) : w.cell? ⟨g, 0, none⟩ = some a ∧ w.cell? ⟨g, 1, none⟩ = some b ∧ w.cell? ⟨g, 2, none⟩ = some c ∧ w.cell? ⟨g, 3, none⟩ = some d := by
  have k := h.cells
  simp only [cellsAre, Nat.zero_add, Nat.reduceAdd, and_true] at k
  exact k
theorem heldPut {w : World} {g : Nat} {T : TypeId} {a b c d : Value} (h : Blk w g T #[a, b, c, d]) (x0 x1 x2 x3 : Value) :
    Held g 4 T w ((((w.setCell ⟨g, 0, none⟩ x0).setCell ⟨g, 1, none⟩ x1).setCell ⟨g, 2, none⟩ x2).setCell ⟨g, 3, none⟩ x3) :=
  Held.set_ (Held.set_ (Held.set_ (Held.set_ h.heldS 0 x0) 1 x1) 2 x2) 3 x3

end Go.Proofs.Tb
/- Contract of the reference for rates: Plain. -/
namespace Go.Proofs.Tb
open Go.RowKit
attribute [local go_sem] cell_set_same

set_option maxHeartbeats 1600000 in
set_option maxRecDepth 100000 in
theorem zplain_any (l : Value) (x y : Rat) (s : Nat) (w : World) (h : ZL w l x y s) (hs : s ≤ 100000000000) :
    Calls Tryz.prog 11 #[l] w (Ret (fun v _ => LineQ x y v) w) := by
  obtain ⟨b0, A0, n0, c0, b1, A1, n1, c1, b2, A2, n2, c2, b3, A3, n3, c3, rfl, hl1, hl2⟩ := h
  have HX := Lib.hid hl1
  have HY := Lib.hid hl2
  clear hl1 hl2
  go_enter Tryz.func11, Tryz.ntmps11
  go_wp2_with fail
  obtain ⟨W0, hW0⟩ : ∃ W0, W0 = (w.alloc (.cells #[.bool b0, .slice A0 n0 c0, .bool b1, .slice A1 n1 c1, .bool b2, .slice A2 n2 c2, .bool b3, .slice A3 n3 c3] TQL)).alloc (.cells #[.int .i64 0, .int .i64 0, .int .i64 0, .int .i64 0] TAL) := ⟨_, rfl⟩
  have e0 : Blk W0 w.heap.size TQL #[.bool b0, .slice A0 n0 c0, .bool b1, .slice A1 n1 c1, .bool b2, .slice A2 n2 c2, .bool b3, .slice A3 n3 c3] := by rw [hW0]; exact (Blk.new_ _ _ rfl).alloc _
  have e1 : Blk W0 (w.heap.size + 1) TAL #[.int .i64 0, .int .i64 0, .int .i64 0, .int .i64 0] := by rw [hW0]; exact Blk.new_ _ _ (by simp)
  have hbw : Below w.heap.size w W0 := by rw [hW0]; go_grown
  rw [← hW0]
  clear hW0
  refine (xfrac_any (HX.out.below hbw) hs).mono ?_
  rintro e w1 ⟨v1, rfl, hf1, hb1⟩
  have HBW := Lib.hid (bt hbw hb1)
  have E0 := Lib.hid (e0.below hb1)
  have E1 := Lib.hid (e1.below hb1)
  clear e0 e1 hbw hb1
  by_cases gx : fitQ x
  · have e1 := hf1.1 gx
    subst e1
    obtain ⟨a, ha⟩ : ∃ a, x.num = a := ⟨_, rfl⟩
    obtain ⟨b, hb⟩ : ∃ a : Int, (x.den : Int) = a := ⟨_, rfl⟩
    rw [ha, hb]
    have k0 := E0.out.cells
    simp only [cellsAre, Nat.zero_add, Nat.reduceAdd, and_true] at k0
    go_upto_region 2 with fail
    refine wp_world (fun W => Blk W w1.heap.size TF #[.int .i64 a, .int .i64 b] ∧ Below w1.heap.size w1 W) (by exact ⟨Blk.new_ _ _ rfl, by go_grown⟩) ?_
    rintro W2 ⟨e2, hbw2⟩
    have k0 := (E0.out.below hbw2).cells
    simp only [cellsAre, Nat.zero_add, Nat.reduceAdd, and_true] at k0
    have HX2 := HY.out.below (bt HBW.out hbw2)
    have HB2 := Lib.hid (show Below w1.heap.size w1 W2 from hbw2)
    have E2 := Lib.hid e2
    clear e2 hbw2
    go_wp2_with fail
    refine (xfrac_any HX2 hs).mono ?_
    rintro e w3 ⟨v3, rfl, hf2, hb3⟩
    have HB3 := Lib.hid (show Below w1.heap.size w1 w3 from bt HB2.out hb3)
    have E3 := Lib.hid (E2.out.below hb3)
    clear hb3 HX2 k0
    by_cases gy : fitQ y
    · have e1 := hf2.1 gy
      subst e1
      obtain ⟨c, hc⟩ : ∃ a, y.num = a := ⟨_, rfl⟩
      obtain ⟨d, hd⟩ : ∃ a : Int, (y.den : Int) = a := ⟨_, rfl⟩
      rw [hc, hd]
      have HQ : Hid (LineQ x y (.tuple #[.agg #[.int .i64 a, .int .i64 b, .int .i64 c, .int .i64 d], .int .i64 0])) := by
        rw [← ha, ← hb, ← hc, ← hd]
        exact ⟨fun _ => rfl, fun hno => absurd ⟨gx, gy⟩ hno⟩
      clear hf1 hf2 gx gy ha hb hc hd
      go_upto_region 3 with fail
      refine wp_world (fun W => (Blk W w1.heap.size TF _ ∧ Blk W (w.heap.size + 1) TAL #[.int .i64 0, .int .i64 0, .int .i64 0, .int .i64 0] ∧ Below w3.heap.size w3 W) ∧ (Blk W w3.heap.size TF _)) (by exact ⟨⟨E3.out.alloc _, (E1.out.below HB3.out).alloc _, by go_grown⟩, Blk.new_ _ _ rfl⟩) ?_
      rintro W4 ⟨⟨e4, e5, hbw4⟩, e6⟩
      have k4 := e4.cells
      have k6 := e6.cells
      have k5 := e5.cells
      have kf := e5.free
      simp only [cellsAre, Nat.zero_add, Nat.reduceAdd, and_true] at k4 k5 k6
      have hh1 : Held (w.heap.size + 1) 4 TAL W4 W4 := e5.heldS
      have r1 := (rules (w.heap.size + 1) 4 TAL W4).some
      have HB4 := Lib.hid (bt HBW.out (bt HB3.out hbw4))
      clear e4 e6 hbw4
      go_wp2
      (try simp only [Exit.inBlock, Exit.then])
      refine bodyPost_ret (v := .tuple #[.agg #[.int .i64 a, .int .i64 b, .int .i64 c, .int .i64 d], .int .i64 0]) (by simp [results, Tryz.results11, go_sem, r1 _ hh1]) rfl ?_
      have hst2 := heldPut e5 (.int .i64 a) (.int .i64 b) (.int .i64 c) (.int .i64 d)
      exact ⟨_, rfl, HQ.out, hst2.below HB4.out (by omega)⟩
    · have e1 := hf2.2 gy
      subst e1
      have HQ : Hid (LineQ x y (.tuple #[.agg #[.int .i64 0, .int .i64 0, .int .i64 0, .int .i64 0], .int .i64 5])) := ⟨fun h => absurd h.2 gy, fun _ => rfl⟩
      clear hf1 hf2 gx gy ha hb
      go_upto_region 3 with fail
      refine wp_world (fun W => (Blk W w1.heap.size TF _ ∧ Blk W (w.heap.size + 1) TAL #[.int .i64 0, .int .i64 0, .int .i64 0, .int .i64 0] ∧ Below w3.heap.size w3 W) ∧ (Blk W w3.heap.size TF _)) (by exact ⟨⟨E3.out.alloc _, (E1.out.below HB3.out).alloc _, by go_grown⟩, Blk.new_ _ _ rfl⟩) ?_
      rintro W4 ⟨⟨e4, e5, hbw4⟩, e6⟩
      have k4 := e4.cells
      have k6 := e6.cells
      have k5 := e5.cells
      have kf := e5.free
      simp only [cellsAre, Nat.zero_add, Nat.reduceAdd, and_true] at k4 k5 k6
      have hh1 : Held (w.heap.size + 1) 4 TAL W4 W4 := e5.heldS
      have r1 := (rules (w.heap.size + 1) 4 TAL W4).some
      have HB4 := Lib.hid (bt HBW.out (bt HB3.out hbw4))
      clear e4 e6 hbw4
      go_wp2
      (try simp only [Exit.inBlock, Exit.then])
      refine bodyPost_ret (v := .tuple #[.agg #[.int .i64 0, .int .i64 0, .int .i64 0, .int .i64 0], .int .i64 5]) (by simp [results, Tryz.results11, go_sem, r1 _ hh1]) rfl ?_
      have hst2 := heldPut e5 (.int .i64 0) (.int .i64 0) (.int .i64 0) (.int .i64 0)
      exact ⟨_, rfl, HQ.out, hst2.below HB4.out (by omega)⟩
  · have e1 := hf1.2 gx
    subst e1
    have HQ : Hid (LineQ x y (.tuple #[.agg #[.int .i64 0, .int .i64 0, .int .i64 0, .int .i64 0], .int .i64 5])) := ⟨fun h => absurd h.1 gx, fun _ => rfl⟩
    have k0 := E0.out.cells
    simp only [cellsAre, Nat.zero_add, Nat.reduceAdd, and_true] at k0
    go_upto_region 2 with fail
    refine wp_world (fun W => Blk W w1.heap.size TF #[.int .i64 0, .int .i64 0] ∧ Below w1.heap.size w1 W) (by exact ⟨Blk.new_ _ _ rfl, by go_grown⟩) ?_
    rintro W2 ⟨e2, hbw2⟩
    have k0 := (E0.out.below hbw2).cells
    simp only [cellsAre, Nat.zero_add, Nat.reduceAdd, and_true] at k0
    have HX2 := HY.out.below (bt HBW.out hbw2)
    have HB2 := Lib.hid (show Below w1.heap.size w1 W2 from hbw2)
    have E2 := Lib.hid e2
    clear e2 hbw2
    go_wp2_with fail
    refine (xfrac_any HX2 hs).mono ?_
    rintro e w3 ⟨v3, rfl, hf2, hb3⟩
    have HB3 := Lib.hid (show Below w1.heap.size w1 w3 from bt HB2.out hb3)
    have E3 := Lib.hid (E2.out.below hb3)
    clear hb3 HX2 k0
    by_cases gy : fitQ y
    · have e1 := hf2.1 gy
      subst e1
      clear hf1 hf2 gx gy
      go_upto_region 3 with fail
      refine wp_world (fun W => (Blk W w1.heap.size TF _ ∧ Blk W (w.heap.size + 1) TAL #[.int .i64 0, .int .i64 0, .int .i64 0, .int .i64 0] ∧ Below w3.heap.size w3 W) ∧ (Blk W w3.heap.size TF _)) (by exact ⟨⟨E3.out.alloc _, (E1.out.below HB3.out).alloc _, by go_grown⟩, Blk.new_ _ _ rfl⟩) ?_
      rintro W4 ⟨⟨e4, e5, hbw4⟩, e6⟩
      have k4 := e4.cells
      have k6 := e6.cells
      have k5 := e5.cells
      have kf := e5.free
      simp only [cellsAre, Nat.zero_add, Nat.reduceAdd, and_true] at k4 k5 k6
      have hh1 : Held (w.heap.size + 1) 4 TAL W4 W4 := e5.heldS
      have r1 := (rules (w.heap.size + 1) 4 TAL W4).some
      have HB4 := Lib.hid (bt HBW.out (bt HB3.out hbw4))
      clear e4 e6 hbw4
      go_wp2
      (try simp only [Exit.inBlock, Exit.then])
      refine bodyPost_ret (v := .tuple #[.agg #[.int .i64 0, .int .i64 0, .int .i64 0, .int .i64 0], .int .i64 5]) (by simp [results, Tryz.results11, go_sem, r1 _ hh1]) rfl ?_
      have hst2 := heldPut e5 (.int .i64 0) (.int .i64 0) (.int .i64 0) (.int .i64 0)
      exact ⟨_, rfl, HQ.out, hst2.below HB4.out (by omega)⟩
    · have e1 := hf2.2 gy
      subst e1
      clear hf1 hf2 gx gy
      go_upto_region 3 with fail
      refine wp_world (fun W => (Blk W w1.heap.size TF _ ∧ Blk W (w.heap.size + 1) TAL #[.int .i64 0, .int .i64 0, .int .i64 0, .int .i64 0] ∧ Below w3.heap.size w3 W) ∧ (Blk W w3.heap.size TF _)) (by exact ⟨⟨E3.out.alloc _, (E1.out.below HB3.out).alloc _, by go_grown⟩, Blk.new_ _ _ rfl⟩) ?_
      rintro W4 ⟨⟨e4, e5, hbw4⟩, e6⟩
      have k4 := e4.cells
      have k6 := e6.cells
      have k5 := e5.cells
      have kf := e5.free
      simp only [cellsAre, Nat.zero_add, Nat.reduceAdd, and_true] at k4 k5 k6
      have hh1 : Held (w.heap.size + 1) 4 TAL W4 W4 := e5.heldS
      have r1 := (rules (w.heap.size + 1) 4 TAL W4).some
      have HB4 := Lib.hid (bt HBW.out (bt HB3.out hbw4))
      clear e4 e6 hbw4
      go_wp2
      (try simp only [Exit.inBlock, Exit.then])
      refine bodyPost_ret (v := .tuple #[.agg #[.int .i64 0, .int .i64 0, .int .i64 0, .int .i64 0], .int .i64 5]) (by simp [results, Tryz.results11, go_sem, r1 _ hh1]) rfl ?_
      have hst2 := heldPut e5 (.int .i64 0) (.int .i64 0) (.int .i64 0) (.int .i64 0)
      exact ⟨_, rfl, HQ.out, hst2.below HB4.out (by omega)⟩
end Go.Proofs.Tb
