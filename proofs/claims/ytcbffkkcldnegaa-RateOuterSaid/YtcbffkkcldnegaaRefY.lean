/- Contracts of the reference for rates: Corner, Hull. -/
import Derived.Test.YtcbffkkcldnegaaRateM
set_option linter.unusedVariables false
set_option linter.unusedSimpArgs false
namespace Go.Proofs.Tb
open Go.RowKit
attribute [local go_sem] cell_set_same

open Classical in
/-- Is a reading a strict corner? -/
noncomputable def crnB (rs : List Rdg) (sg : Int) (j : Nat) : Bool := decide (Crn (tm rs) (ysg rs sg) rs.length j)
theorem crnB_t {rs : List Rdg} {sg : Int} {j : Nat} (h : Crn (tm rs) (ysg rs sg) rs.length j) : crnB rs sg j = true := by unfold crnB; simpa using h
theorem crnB_f {rs : List Rdg} {sg : Int} {j : Nat} (h : ¬ Crn (tm rs) (ysg rs sg) rs.length j) : crnB rs sg j = false := by unfold crnB; simpa using h
theorem crnL_succ (rs : List Rdg) (sg : Int) (k : Nat) : ((List.range (k + 1)).filter (crnB rs sg)) = if crnB rs sg k = true then (List.range k).filter (crnB rs sg) ++ [k] else (List.range k).filter (crnB rs sg) := by
  rw [List.range_succ, List.filter_append]
  by_cases h : crnB rs sg k = true
  · simp [h]
  · simp [h]
theorem trn_bd {rs : List Rdg} (hv : Vld rs) {i j k : Nat} (hi : i < rs.length) (hj : j < rs.length) (hk : k < rs.length) :
    (-4000000000000 ≤ (tm rs j - tm rs i) * (ofs rs k - ofs rs i) ∧ (tm rs j - tm rs i) * (ofs rs k - ofs rs i) ≤ 4000000000000) ∧ (-4000000000000 ≤ (tm rs k - tm rs i) * (ofs rs j - ofs rs i) ∧ (tm rs k - tm rs i) * (ofs rs j - ofs rs i) ≤ 4000000000000) := by
  have oi := hv.2.2 i hi
  have oj := hv.2.2 j hj
  have ok := hv.2.2 k hk
  unfold okAt at oi oj ok
  unfold tm ofs
  exact ⟨mul_bd _ _ (by omega) (by omega) (by omega) (by omega), mul_bd _ _ (by omega) (by omega) (by omega) (by omega)⟩

theorem trn_raw (rs : List Rdg) (sg : Int) (i j q : Nat) : trn (tm rs) (ysg rs sg) i j q = sg * (((rs.getD j (0, 0)).1 - (rs.getD i (0, 0)).1) * ((rs.getD q (0, 0)).2 - (rs.getD i (0, 0)).2) - ((rs.getD q (0, 0)).1 - (rs.getD i (0, 0)).1) * ((rs.getD j (0, 0)).2 - (rs.getD i (0, 0)).2)) := by
  unfold trn ysg tm ofs; grind
set_option maxHeartbeats 3200000 in
set_option maxRecDepth 100000 in
theorem zcorner_any (A : Option Addr) (n c : Nat) (rs : List Rdg) (sg : Int) (j : Nat) (w : World) (h : Rd w A n c rs) (hv : Vld rs) (hsg : sg = 1 ∨ sg = -1) (hj : j < n) :
    Calls Try.prog 85 #[.slice A n c, .int .i64 (j : Int), .int .i64 sg] w (Ret (fun v _ => v = .bool (crnB rs sg j)) w) := by
  have hn := h.le
  have hc := h.cap
  have hn64 : n ≤ 64 := by have := hv.2.1; have := h.len; omega
  have H := Lib.hid h
  have HV := Lib.hid hv
  have HL := Lib.hid h.len
  have HSG := Lib.hid hsg
  clear h hv hsg
  go_enter Try.func85, Try.ntmps85
  go_wp2
  go_loopw [7] (fun x wr => ∃ i : Nat, x = .int .i64 i ∧ i ≤ j ∧ (∀ i' q, i' < i → j < q → q < n → 0 < trn (tm rs) (ysg rs sg) i' j q) ∧ Below w.heap.size w wr) (fun x _ => j - (intOf x).toNat)
  case atStart => exact ⟨0, rfl, Nat.zero_le _, fun i' q h1 => absurd h1 (by omega), Below.refl _ _⟩
  case round =>
    obtain ⟨i, rfl, hi, hall, hbw⟩ := hrel
    obtain ⟨wi, rfl⟩ : ∃ wo : World, wo = wr := ⟨_, rfl⟩
    have HA := Lib.hid hall
    have HB := Lib.hid hbw
    clear hall hbw
    by_cases hij : i < j
    · have g1 : decide ((i : Int) < (j : Int)) = true := by simp; omega
      go_wp2
      go_loopw [8] (fun x wr => ∃ q : Nat, x = .int .i64 q ∧ j + 1 ≤ q ∧ q ≤ n ∧ (∀ q', j < q' → q' < q → 0 < trn (tm rs) (ysg rs sg) i j q') ∧ Below w.heap.size w wr) (fun x _ => n - (intOf x).toNat)
      case atStart => exact ⟨j + 1, by go_num, by omega, by omega, fun q' h1 h2 => absurd h1 (by omega), HB.out⟩
      case round =>
        clear HB
        obtain ⟨q, rfl, hq1, hq2, hall, hbw⟩ := hrel
        obtain ⟨wj, rfl⟩ : ∃ wo : World, wo = wr := ⟨_, rfl⟩
        have HAQ := Lib.hid hall
        have HB := Lib.hid hbw
        clear hall hbw
        by_cases hqn : q < n
        · have g2 : decide ((q : Int) < (n : Int)) = true := by simp; omega
          obtain ⟨t, o, rfl, hcell⟩ := (H.out.below HB.out).at_ (by omega)
          obtain ⟨a1, a2⟩ := hcell i (by omega)
          obtain ⟨a3, a4⟩ := hcell j hj
          obtain ⟨a5, a6⟩ := hcell q hqn
          have oi := (HV.out.2.2 i (by rw [HL.out]; omega))
          have oj := (HV.out.2.2 j (by rw [HL.out]; omega))
          have oq := (HV.out.2.2 q (by rw [HL.out]; exact hqn))
          obtain ⟨m1, m2⟩ := trn_bd HV.out (i := i) (j := j) (k := q) (by rw [HL.out]; omega) (by rw [HL.out]; omega) (by rw [HL.out]; exact hqn)
          have HT : Hid (trn (tm rs) (ysg rs sg) i j q = sg * (((rs.getD j (0, 0)).1 - (rs.getD i (0, 0)).1) * ((rs.getD q (0, 0)).2 - (rs.getD i (0, 0)).2) - ((rs.getD q (0, 0)).1 - (rs.getD i (0, 0)).1) * ((rs.getD j (0, 0)).2 - (rs.getD i (0, 0)).2))) := trn_raw rs sg i j q
          unfold okAt at oi oj oq
          unfold tm ofs at m1 m2
          clear hcell
          obtain ⟨ti, eti⟩ : ∃ x, (rs.getD i (0, 0)).1 = x := ⟨_, rfl⟩
          obtain ⟨yi, eyi⟩ : ∃ x, (rs.getD i (0, 0)).2 = x := ⟨_, rfl⟩
          obtain ⟨tj, etj⟩ : ∃ x, (rs.getD j (0, 0)).1 = x := ⟨_, rfl⟩
          obtain ⟨yj, eyj⟩ : ∃ x, (rs.getD j (0, 0)).2 = x := ⟨_, rfl⟩
          obtain ⟨tq', etq⟩ : ∃ x, (rs.getD q (0, 0)).1 = x := ⟨_, rfl⟩
          obtain ⟨yq', eyq⟩ : ∃ x, (rs.getD q (0, 0)).2 = x := ⟨_, rfl⟩
          rw [eti, eyi] at oi
          rw [etj, eyj] at oj
          rw [etq, eyq] at oq
          rw [eti, eyi, etj, eyj, etq, eyq] at HT
          rw [eti, eyi, etj, eyq] at m1
          rw [eti, eyi, etq, eyj] at m2
          rw [eti] at a1
          rw [eyi] at a2
          rw [etj] at a3
          rw [eyj] at a4
          rw [etq] at a5
          rw [eyq] at a6
          clear eti eyi etj eyj etq eyq
          obtain ⟨d1, e1⟩ : ∃ x, tj - ti = x := ⟨_, rfl⟩
          obtain ⟨d2, e2⟩ : ∃ x, yq' - yi = x := ⟨_, rfl⟩
          obtain ⟨d3, e3⟩ : ∃ x, tq' - ti = x := ⟨_, rfl⟩
          obtain ⟨d4, e4⟩ : ∃ x, yj - yi = x := ⟨_, rfl⟩
          rw [e1, e2, e3, e4] at HT
          rw [e1, e2] at m1
          rw [e3, e4] at m2
          obtain ⟨f1, e5⟩ : ∃ x, d1 * d2 = x := ⟨_, rfl⟩
          obtain ⟨f2, e6⟩ : ∃ x, d3 * d4 = x := ⟨_, rfl⟩
          rw [e5, e6] at HT
          rw [e5] at m1
          rw [e6] at m2
          obtain ⟨f3, e7⟩ : ∃ x, f1 - f2 = x := ⟨_, rfl⟩
          rw [e7] at HT
          obtain ⟨u, e8⟩ : ∃ x, sg * f3 = x := ⟨_, rfl⟩
          rw [e8] at HT
          have f3b : -8000000000000 ≤ f3 ∧ f3 ≤ 8000000000000 := by omega
          have ub : -8000000000000 ≤ u ∧ u ≤ 8000000000000 := by rcases HSG.out with h | h <;> subst h <;> omega
          have w1 : IntKind.i64.wrap (tj - ti) = d1 := by rw [e1]; exact IntWalk.i64_in _ (by omega)
          have w2 : IntKind.i64.wrap (yq' - yi) = d2 := by rw [e2]; exact IntWalk.i64_in _ (by omega)
          have w3 : IntKind.i64.wrap (tq' - ti) = d3 := by rw [e3]; exact IntWalk.i64_in _ (by omega)
          have w4 : IntKind.i64.wrap (yj - yi) = d4 := by rw [e4]; exact IntWalk.i64_in _ (by omega)
          have w5 : IntKind.i64.wrap (d1 * d2) = f1 := by rw [e5]; exact IntWalk.i64_in _ (by omega)
          have w6 : IntKind.i64.wrap (d3 * d4) = f2 := by rw [e6]; exact IntWalk.i64_in _ (by omega)
          have w7 : IntKind.i64.wrap (f1 - f2) = f3 := by rw [e7]; exact IntWalk.i64_in _ (by omega)
          have HE8 := Lib.hid e8
          have ri : (i : Int) < (n : Int) := by omega
          have rj : (j : Int) < (n : Int) := by omega
          have rq : (q : Int) < (n : Int) := by omega
          have HB2 : Hid (∀ nq, Below w.heap.size w (wj.drewN nq)) := fun nq => below_drewN HB.out nq
          clear e1 e2 e3 e4 e5 e6 e7 e8 m1 m2 oi oj oq
          go_wp2
          go_quiet (fail)
          clear w1 w2 w3 w4 w5 w6 w7 a1 a2 a3 a4 a5 a6 f3b
          have p1 : -8000000000000 ≤ sg * f3 := by rw [HE8.out]; exact ub.1
          have p2 : sg * f3 ≤ 8000000000000 := by rw [HE8.out]; exact ub.2
          clear ub
          by_cases hu : u ≤ 0
          · have g3 : decide (sg * f3 ≤ 0) = true := by rw [HE8.out]; simpa using hu
            have HF := Lib.hid (crnB_f (rs := rs) (sg := sg) (j := j) (fun hc => by have := hc i q hij (by omega) (by rw [HL.out]; exact hqn); rw [HT.out] at this; omega))
            clear hu
            go_wp2
            go_returns
            exact ⟨_, rfl, by rw [HF.out]; rfl, HB2.out _⟩
          · have g3 : decide (sg * f3 ≤ 0) = false := by rw [HE8.out]; simpa using hu
            have HN : Hid (0 < trn (tm rs) (ysg rs sg) i j q) := by show 0 < trn _ _ _ _ _; rw [HT.out]; omega
            clear hu
            go_wp2
            go_roundw
            case rel => exact ⟨q + 1, by go_num, by omega, by omega, fun q' h1 h2 => by rcases Nat.lt_or_eq_of_le (Nat.le_of_lt_succ h2) with h3 | h3; exact HAQ.out q' h1 h3; rw [h3]; exact HN.out, HB2.out _⟩
            case measure => first | (simp [intOf]; done) | (simp [intOf]; omega)
        · have : q = n := by omega
          subst this
          have g2 : decide ((q : Int) < (q : Int)) = false := by simp
          go_wp2
          go_roundw
          case rel => exact ⟨i + 1, by go_num, by omega, fun i' q' h1 h2 h3 => by rcases Nat.lt_or_eq_of_le (Nat.le_of_lt_succ h1) with h4 | h4; exact HA.out i' q' h4 h2 h3; rw [h4]; exact HAQ.out q' h2 h3, HB.out⟩
          case measure => first | (simp [intOf]; done) | (simp [intOf]; omega)
    · have : i = j := by omega
      subst this
      have g1 : decide ((i : Int) < (i : Int)) = false := by simp
      have HT := Lib.hid (crnB_t (rs := rs) (sg := sg) (j := i) (fun i' q h1 h2 h3 => HA.out i' q h1 h2 (by rw [← HL.out]; exact h3)))
      go_wp2
      go_returns
      exact ⟨_, rfl, by rw [HT.out]; rfl, HB.out⟩

/-- What Hull of the reference returns. -/
def ZHR (rs : List Rdg) (sg : Int) (v : Value) (w : World) : Prop := SL TN w v ((crnL (tm rs) (ysg rs sg) rs.length).map I64)
theorem crnL_eq (rs : List Rdg) (sg : Int) : (List.range rs.length).filter (crnB rs sg) = crnL (tm rs) (ysg rs sg) rs.length := rfl
set_option maxHeartbeats 3200000 in
set_option maxRecDepth 100000 in
theorem zhull_any (A : Option Addr) (n c : Nat) (rs : List Rdg) (sg : Int) (w : World) (h : Rd w A n c rs) (hv : Vld rs) (hsg : sg = 1 ∨ sg = -1) :
    Calls Try.prog 41 #[.slice A n c, .int .i64 sg] w (Ret (ZHR rs sg) w) := by
  have hn := h.le
  have hc := h.cap
  have hn64 : n ≤ 64 := by have := hv.2.1; have := h.len; omega
  have H := Lib.hid h
  have HV := Lib.hid hv
  have HL := Lib.hid h.len
  have HSG := Lib.hid hsg
  clear h hv hsg
  go_enter Try.func41, Try.ntmps41
  go_wp2
  go_loopw [5, 6] (fun v x wr => ∃ (k : Nat) (cs : List Nat), x = .int .i64 k ∧ k ≤ n ∧ cs = (List.range k).filter (crnB rs sg) ∧ cs.length ≤ k ∧ Ow w.heap.size wr v cs ∧ Below w.heap.size w wr) (fun _ x _ => n - (intOf x).toNat)
  case atStart => exact ⟨0, [], rfl, Nat.zero_le _, rfl, Nat.le_refl _, Ow.empty _ _ (Nat.le_refl _), by go_grown⟩
  case round =>
    obtain ⟨k, cs, rfl, hk, hcs, hlen, hown, hbw⟩ := hrel
    obtain ⟨wi, rfl⟩ : ∃ wo : World, wo = wr := ⟨_, rfl⟩
    have HCS := Lib.hid hcs
    have HO := Lib.hid hown
    have HB := Lib.hid hbw
    clear hcs hown hbw
    by_cases hkn : k < n
    · have g1 : decide ((k : Int) < (n : Int)) = true := by simp; omega
      go_wp2_with fail
      refine (zcorner_any A n c rs sg k wi (H.out.below HB.out) HV.out HSG.out hkn).mono ?_
      rintro e w1 ⟨v1, rfl, hv1, hb1⟩
      have HO1 := Lib.hid (HO.out.below hb1)
      have hb2 := bt HB.out hb1
      clear hb1
      by_cases hcr : crnB rs sg k = true
      · rw [hcr] at hv1
        subst hv1
        have HN : Hid (cs ++ [k] = (List.range (k + 1)).filter (crnB rs sg)) := by show _ = _; rw [crnL_succ, if_pos hcr, HCS.out]
        clear hcr
        go_wp2_with (at_builtin; refine wp_app1 rfl _ _ rfl w.heap.size _ cs rfl HO1.out _ k rfl rfl (by omega) hb2.size ?_; intro v' w2 hown2 hb3)
        go_roundw
        case rel => exact ⟨k + 1, cs ++ [k], by go_num, by omega, HN.out, by simp; omega, hown2, hb2.trans hb3⟩
        case measure => first | (simp [intOf]; done) | (simp [intOf]; omega)
      · have hcf : crnB rs sg k = false := by simpa using hcr
        rw [hcf] at hv1
        subst hv1
        have HN : Hid (cs = (List.range (k + 1)).filter (crnB rs sg)) := by show _ = _; rw [crnL_succ, if_neg hcr, HCS.out]
        clear hcr hcf
        go_wp2
        go_roundw
        case rel => exact ⟨k + 1, cs, by go_num, by omega, HN.out, by omega, HO1.out, hb2⟩
        case measure => first | (simp [intOf]; done) | (simp [intOf]; omega)
    · have : k = n := by omega
      subst this
      have g1 : decide ((k : Int) < (k : Int)) = false := by simp
      obtain ⟨A', n', c', rfl, hil⟩ := HO.out.sl
      have HIL := Lib.hid hil
      clear hil
      have HE : Hid (cs = crnL (tm rs) (ysg rs sg) rs.length) := by show _ = _; rw [HCS.out, ← crnL_eq, HL.out]
      go_wp2
      go_returns
      exact ⟨_, rfl, by unfold ZHR; rw [← HE.out]; exact HIL.out.toSL, HB.out⟩
end Go.Proofs.Tb
