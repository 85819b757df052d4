/- Contracts of the reference for rates: whole, Slope. -/
import Derived.Test.YtcbffkkcldnegaaRateG
import Derived.Test.YtcbffkkcldnegaaRefL
set_option linter.unusedVariables false
set_option linter.unusedSimpArgs false
namespace Go.Proofs.Tb
open Go.RowKit
attribute [local go_sem] cell_set_same

/-- v is the fraction x, in lowest terms, of size at most s. -/
def ZR (w : World) (v : Value) (x : Rat) (s : Nat) : Prop := ZQ w v x.num (x.den : Int) ∧ s10 x.num ≤ s ∧ s10 (x.den : Int) ≤ s
theorem s10_lown {p q : Int} (hq : 0 < q) : s10 (lown p q) ≤ s10 p := by
  rw [lown_q hq, qv_num hq]
  unfold s10
  refine dl_mono BT two_BT _ _ ?_
  rw [Int.natAbs_ediv_of_dvd (Int.gcd_dvd_left _ _)]
  exact Nat.div_le_self _ _
theorem s10_lowd {p q : Int} (hq : 0 < q) : s10 (lowd p q) ≤ s10 q := by
  rw [lowd_q hq, qv_den hq]
  unfold s10
  refine dl_mono BT two_BT _ _ ?_
  rw [Int.natAbs_ediv_of_dvd (Int.gcd_dvd_right _ _)]
  exact Nat.div_le_self _ _
theorem ZQ.r {w : World} {v : Value} {p q : Int} {s : Nat} (hq : 0 < q) (h : ZQ w v (lown p q) (lowd p q)) (h1 : s10 p ≤ s) (h2 : s10 q ≤ s) : ZR w v (qv p q) s :=
  ⟨by rw [← lown_q hq, ← lowd_q hq]; exact h, by rw [← lown_q hq]; exact Nat.le_trans (s10_lown hq) h1, by rw [← lowd_q hq]; exact Nat.le_trans (s10_lowd hq) h2⟩

set_option maxHeartbeats 800000 in
theorem zwh_any (n : Int) (w : World)  (h1 : -9223372036854775808 ≤ n) (h2 : n ≤ 9223372036854775807) :
    Calls Try.prog 68 #[.int .i64 n] w (Ret (fun v w' => ZQ w' v n 1) w) := by
  go_enter Try.func68, Try.ntmps68
  go_wp2_with fail
  obtain ⟨W0, hW0⟩ : ∃ W0, W0 = (w).alloc (.cells #[.bool false, .slice none 0 0, .bool false, .slice none 0 0] TQ) := ⟨_, rfl⟩
  have b0 : Blk W0 (w.heap.size) TQ #[.bool false, .slice none 0 0, .bool false, .slice none 0 0] := by rw [hW0]; exact Blk.new_ _ _ rfl
  have hbw : Below w.heap.size w W0 := by rw [hW0]; go_grown
  rw [← hW0]
  clear hW0
  have hst : Held (w.heap.size) 4 TQ W0 W0 := b0.heldS
  have r1 := (rules (w.heap.size) 4 TQ W0).some
  have r2 := (rules (w.heap.size) 4 TQ W0).free
  clear b0
  have bw0 : Below w.heap.size w W0 := hbw
  refine (zwhole_any n _ (by omega) (by omega)).mono ?_; rintro e w1 ⟨v1, rfl, ⟨A1_0, n1_0, c1_0, A1_1, n1_1, c1_1, rfl, hx1_0, hx1_1, hp1⟩, hb1⟩; have hh1 : Held (w.heap.size) 4 TQ W0 w1 := hst.trans_ hb1; have bw1 := bt bw0 hb1
  go_wp2_with fail
  (try simp only [Exit.inBlock, Exit.then])
  refine bodyPost_ret (v := .agg #[.bool (ng n), .slice A1_0 n1_0 c1_0, .bool (ng 1), .slice A1_1 n1_1 c1_1]) (by simp [results, Try.results68, go_sem, r1 _ hh1]) rfl ?_
  have hst2 := Held.set_ (Held.set_ (Held.set_ (Held.set_ (hh1.here) 0 (.bool (ng n))) 1 (.slice A1_0 n1_0 c1_0)) 2 (.bool (ng 1))) 3 (.slice A1_1 n1_1 c1_1)
  exact ⟨_, rfl, ⟨_, _, _, _, _, _, rfl, (hx1_0).held hst2 (by decide), (hx1_1).held hst2 (by decide), (by decide)⟩, (hh1.trans2 hst2).below hbw (by omega)⟩

/-- The slope from reading i to reading j. -/
def slQ (rs : List Rdg) (i j : Nat) : Rat := (yq rs j - yq rs i) / (tq rs j - tq rs i)
theorem slQ_qv {rs : List Rdg} {i j : Nat} (hne : tm rs j - tm rs i ≠ 0) : qv (ofs rs j - ofs rs i) (tm rs j - tm rs i) = slQ rs i j := by
  unfold slQ yq tq
  rw [qv_div, Rat.intCast_sub, Rat.intCast_sub]
theorem slQ_comm (rs : List Rdg) (i j : Nat) : slQ rs i j = slQ rs j i := by
  unfold slQ
  by_cases h : tq rs j - tq rs i = 0
  · have h2 : tq rs i - tq rs j = 0 := by grind
    rw [h, h2]
    grind
  · grind
theorem Vld.tm_bd {rs : List Rdg} (h : Vld rs) {i : Nat} (hi : i < rs.length) : -1000000 ≤ tm rs i ∧ tm rs i ≤ 1000000 ∧ -1000000 ≤ ofs rs i ∧ ofs rs i ≤ 1000000 := by
  have := h.2.2 i hi
  unfold okAt at this
  unfold tm ofs
  omega
theorem Vld.tm_ne {rs : List Rdg} (h : Vld rs) {i j : Nat} (hi : i < rs.length) (hj : j < rs.length) (hne : i ≠ j) : tm rs j - tm rs i ≠ 0 := by
  rcases Nat.lt_or_gt_of_ne hne with h1 | h1
  · have := h.mono_tm h1 hj; omega
  · have := h.mono_tm h1 hi; omega

set_option maxHeartbeats 1600000 in
set_option maxRecDepth 100000 in
theorem zslope_any (A : Option Addr) (n c : Nat) (rs : List Rdg) (I J : Nat) (w : World) (h : Rd w A n c rs) (hv : Vld rs) (hi : I < n) (hj : J < n) (hne : I ≠ J) :
    Calls Try.prog 32 #[.slice A n c, .int .i64 (I : Int), .int .i64 (J : Int)] w (Ret (fun v w' => ZR w' v (slQ rs I J) 10) w) := by
  have hn := h.le
  have hc := h.cap
  have hl := h.len
  obtain ⟨ti1, ti2, yi1, yi2⟩ := hv.tm_bd (i := I) (by omega)
  obtain ⟨tj1, tj2, yj1, yj2⟩ := hv.tm_bd (i := J) (by omega)
  have hd := hv.tm_ne (i := I) (j := J) (by omega) (by omega) hne
  have HSQ := Lib.hid (slQ_qv hd)
  obtain ⟨b, o, rfl, _⟩ := h.at_ (by omega)
  have HR := Lib.hid h
  have HKC : Hid (∀ w', Below w.heap.size w w' → w'.cell? ⟨b, o + I * 2, none⟩ = some (.int .i64 (tm rs I)) ∧ w'.cell? ⟨b, o + I * 2 + 1, none⟩ = some (.int .i64 (ofs rs I)) ∧ w'.cell? ⟨b, o + J * 2, none⟩ = some (.int .i64 (tm rs J)) ∧ w'.cell? ⟨b, o + J * 2 + 1, none⟩ = some (.int .i64 (ofs rs J))) := fun w' hb => by
    obtain ⟨b', o', he, hcell⟩ := (HR.out.below hb).at_ (by omega)
    injection he with he
    injection he with h1 h2 _
    subst h1 h2
    exact ⟨(hcell I hi).1, (hcell I hi).2, (hcell J hj).1, (hcell J hj).2⟩
  obtain ⟨ti, hti⟩ : ∃ x, tm rs I = x := ⟨_, rfl⟩
  obtain ⟨yi, hyi⟩ : ∃ x, ofs rs I = x := ⟨_, rfl⟩
  obtain ⟨tj, htj⟩ : ∃ x, tm rs J = x := ⟨_, rfl⟩
  obtain ⟨yj, hyj⟩ : ∃ x, ofs rs J = x := ⟨_, rfl⟩
  rw [hti, hyi, htj, hyj] at HSQ HKC
  rw [hti, htj] at hd
  rw [hti] at ti1 ti2
  rw [hyi] at yi1 yi2
  rw [htj] at tj1 tj2
  rw [hyj] at yj1 yj2
  clear hti hyi htj hyj h hv hl
  obtain ⟨Y, hY⟩ : ∃ x, yj - yi = x := ⟨_, rfl⟩
  obtain ⟨T, hT⟩ : ∃ x, tj - ti = x := ⟨_, rfl⟩
  have q1 : IntKind.i64.wrap (yj - yi) = Y := by rw [IntWalk.i64_in _ (by omega)]; exact hY
  have q2 : IntKind.i64.wrap (tj - ti) = T := by rw [IntWalk.i64_in _ (by omega)]; exact hT
  have y1 : -2000000 ≤ Y := by omega
  have y2 : Y ≤ 2000000 := by omega
  have t1 : -2000000 ≤ T := by omega
  have t2 : T ≤ 2000000 := by omega
  rw [hT] at hd
  rw [hY, hT] at HSQ
  have HD := Lib.hid hd
  have hi' : (I : Int) < (n : Int) := by omega
  have hj' : (J : Int) < (n : Int) := by omega
  have HY5 := Lib.hid (s10_small Y (by omega) (by omega))
  have HT5 := Lib.hid (s10_small T (by omega) (by omega))
  have H15 := Lib.hid (s10_small 1 (by omega) (by omega))
  obtain ⟨P, hP⟩ : ∃ x, rn (Y * 1) (1 * T) = x := ⟨_, rfl⟩
  obtain ⟨Q, hQ⟩ : ∃ x, rd (1 * T) = x := ⟨_, rfl⟩
  obtain ⟨P2, hP2⟩ : ∃ x, lown P Q = x := ⟨_, rfl⟩
  obtain ⟨Q2, hQ2⟩ : ∃ x, lowd P Q = x := ⟨_, rfl⟩
  have HPS := Lib.hid (show s10 P ≤ 10 by rw [← hP, s10_rn, Int.mul_one]; have := HY5.out; omega)
  have HQS := Lib.hid (show s10 Q ≤ 10 by rw [← hQ, s10_rd, Int.one_mul]; have := HT5.out; omega)
  have HQP := Lib.hid (show 0 < Q by rw [← hQ, Int.one_mul]; exact rd_pos hd)
  have HQE := Lib.hid (show qv P Q = slQ rs I J by rw [← hP, ← hQ, Int.mul_one, Int.one_mul, qv_rn hd]; exact HSQ.out)
  have HDIV : Hid (∀ a b W, ZQ W a Y 1 → ZQ W b T 1 → Calls Try.prog 81 #[a, b] W (Ret (fun v w' => ZQ w' v P Q) W)) := fun a b W ha hb => by
    rw [← hP, ← hQ]
    exact zqdiv_any a b Y 1 T 1 W ha hb HD.out (by have := HY5.out; have := HT5.out; have := H15.out; omega)
  have HLOW : Hid (∀ a W, ZQ W a P Q → Calls Try.prog 24 #[a] W (Ret (fun v w' => ZQ w' v P2 Q2) W)) := fun a W ha => by
    rw [← hP2, ← hQ2]
    exact zlowest_any a P Q W ha (Nat.le_trans HPS.out (by omega)) (Nat.le_trans HQS.out (by omega))
  have HP2 := Lib.hid hP2
  have HQ2 := Lib.hid hQ2
  clear hP hQ hP2 hQ2 HY5 HT5 H15 HSQ
  clear hd hY hT hne ti1 ti2 yi1 yi2 tj1 tj2 yj1 yj2
  go_enter Try.func32, Try.ntmps32
  go_wp2
  refine wp_world (fun W0 => Blk W0 (w.heap.size) TQ #[.bool false, .slice none 0 0, .bool false, .slice none 0 0] ∧ Below w.heap.size w W0) (by exact ⟨Blk.new_ _ _ rfl, by go_grown⟩) ?_
  rintro W0 ⟨b0, hbw⟩
  have hst : Held (w.heap.size) 4 TQ W0 W0.drew := b0.heldS.drew
  have r1 := (rules (w.heap.size) 4 TQ W0).some
  have r2 := (rules (w.heap.size) 4 TQ W0).free
  have k0 := fun w' (hh : Held (w.heap.size) 4 TQ W0 w') => HKC.out w' (hh.below hbw (Nat.le_refl _))
  clear b0
  have bw0 : Below w.heap.size w W0.drew := hbw.drew
  go_region_held3 (fun w' => Held (w.heap.size) 4 TQ W0 w') (first | assumption | exact Held.trans_ (by assumption) (by assumption) | exact Held.set_ (Held.set_ (Held.set_ (Held.set_ ((by assumption)) _ _) _ _) _ _) _ _)
    (first | (go_at_call 24; have tk := hb3; refine (HLOW.out _ _ ⟨_, _, _, _, _, _, rfl, hx3_0, hx3_1, hp3⟩).mono ?_; rintro e w4 ⟨v4, rfl, ⟨A4_0, n4_0, c4_0, A4_1, n4_1, c4_1, rfl, hx4_0, hx4_1, hp4⟩, hb4⟩; have hh4 : Held (w.heap.size) 4 TQ W0 w4 := hh3.trans_ hb4; have bw4 := bt bw3 hb4) | (go_at_call 81; have tk := hb2; refine (HDIV.out _ _ _ ⟨_, _, _, _, _, _, rfl, hx1_0.below hb2, hx1_1.below hb2, hp1⟩ ⟨_, _, _, _, _, _, rfl, hx2_0, hx2_1, hp2⟩).mono ?_; rintro e w3 ⟨v3, rfl, ⟨A3_0, n3_0, c3_0, A3_1, n3_1, c3_1, rfl, hx3_0, hx3_1, hp3⟩, hb3⟩; have hh3 : Held (w.heap.size) 4 TQ W0 w3 := hh2.trans_ hb3; have bw3 := bt bw2 hb3) | (go_at_call 68; have tk := hb1; refine (zwh_any T _ (by omega) (by omega)).mono ?_; rintro e w2 ⟨v2, rfl, ⟨A2_0, n2_0, c2_0, A2_1, n2_1, c2_1, rfl, hx2_0, hx2_1, hp2⟩, hb2⟩; have hh2 : Held (w.heap.size) 4 TQ W0 w2 := hh1.trans_ hb2; have bw2 := bt bw1 hb2) | (go_at_call 68; refine (zwh_any Y _ (by omega) (by omega)).mono ?_; rintro e w1 ⟨v1, rfl, ⟨A1_0, n1_0, c1_0, A1_1, n1_1, c1_1, rfl, hx1_0, hx1_1, hp1⟩, hb1⟩; have hh1 : Held (w.heap.size) 4 TQ W0 w1 := hst.trans_ hb1; have bw1 := bt bw0 hb1))
  go_wp2
  (try simp only [Exit.inBlock, Exit.then])
  refine bodyPost_ret (v := .agg #[.bool (ng P2), .slice A4_0 n4_0 c4_0, .bool (ng Q2), .slice A4_1 n4_1 c4_1]) (by simp [results, Try.results32, go_sem, r1 _ hh4]) rfl ?_
  have hst2 := Held.set_ (Held.set_ (Held.set_ (Held.set_ (hh4.here) 0 (.bool (ng P2))) 1 (.slice A4_0 n4_0 c4_0)) 2 (.bool (ng Q2))) 3 (.slice A4_1 n4_1 c4_1)
  exact ⟨_, rfl, by rw [← HQE.out]; exact ZQ.r HQP.out (by rw [HP2.out, HQ2.out]; exact ⟨_, _, _, _, _, _, rfl, (hx4_0).held hst2 (by decide), (hx4_1).held hst2 (by decide), hp4⟩) HPS.out HQS.out, (hh4.trans2 hst2).below hbw (by omega)⟩
end Go.Proofs.Tb
