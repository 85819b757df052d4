/- Contract of package rate: Slope. -/
import Derived.Test.YtcbffkkcldnegaaRefN
import Derived.Test.YtcbffkkcldnegaaLawB
set_option linter.unusedVariables false
set_option linter.unusedSimpArgs false
namespace Go.Proofs.Tb
open Go.RowKit
attribute [local go_sem] cell_set_same

/-- May the slope be asked? -/
def SlOk (rs : List Rdg) (i j : Int) : Prop := Vld rs ∧ 0 ≤ i ∧ i < rs.length ∧ 0 ≤ j ∧ j < rs.length ∧ i ≠ j
/-- What Slope returns. -/
def SlopeR (rs : List Rdg) (i j : Int) (v : Value) : Prop :=
  (SlOk rs i j → FracQ (slQ rs i.toNat j.toNat) v) ∧ (¬ SlOk rs i j → v = .tuple #[.agg #[.int .i64 0, .int .i64 0], .int .i64 1])
theorem SlopeR.bad {rs : List Rdg} {i j : Int} (h : ¬ SlOk rs i j) : SlopeR rs i j (.tuple #[.agg #[.int .i64 0, .int .i64 0], .int .i64 1]) := ⟨fun h' => absurd h' h, fun _ => rfl⟩
/-- What between returns, as numbers. -/
theorem between_q {rs : List Rdg} (hv : Vld rs) {I J : Nat} (hi : I < rs.length) (hj : J < rs.length) (hne : I ≠ J) :
    ∃ sn sd : Int, (if tm rs J < tm rs I then Value.agg #[.int .i64 (ofs rs I - ofs rs J), .int .i64 (tm rs I - tm rs J)] else .agg #[.int .i64 (ofs rs J - ofs rs I), .int .i64 (tm rs J - tm rs I)]) = .agg #[.int .i64 sn, .int .i64 sd] ∧
      -2000000 ≤ sn ∧ sn ≤ 2000000 ∧ 0 < sd ∧ sd ≤ 2000000 ∧ qv sn sd = slQ rs I J := by
  have b1 := hv.tm_bd hi
  have b2 := hv.tm_bd hj
  by_cases h : tm rs J < tm rs I
  · refine ⟨_, _, if_pos h, by omega, by omega, by omega, by omega, ?_⟩
    rw [slQ_comm]
    exact slQ_qv (by omega)
  · have hd := hv.tm_ne hi hj hne
    exact ⟨_, _, if_neg h, by omega, by omega, by omega, by omega, slQ_qv hd⟩

set_option maxHeartbeats 1600000 in
set_option maxRecDepth 100000 in
theorem rslope_any (A : Option Addr) (n c : Nat) (rs : List Rdg) (i j : Int) (w : World) (h : Rd w A n c rs) (hi : rngI i) (hj : rngI j) :
    Calls Try.prog 29 #[.slice A n c, .int .i64 i, .int .i64 j] w (Ret (fun v _ => SlopeR rs i j v) w) := by
  have hn := h.le
  have hc := h.cap
  have hl := h.len
  obtain ⟨i1, i2⟩ := hi
  obtain ⟨j1, j2⟩ := hj
  have HR := Lib.hid h
  obtain ⟨W0, hW0⟩ : ∃ W0, W0 = w.alloc (.cells #[.int .i64 0, .int .i64 0] TF) := ⟨_, rfl⟩
  have b0 : Blk W0 w.heap.size TF #[.int .i64 0, .int .i64 0] := by rw [hW0]; exact Blk.new_ _ _ rfl
  have hbw : Below w.heap.size w W0 := by rw [hW0]; go_grown
  have HB0 := Lib.hid b0
  have HBW := Lib.hid hbw
  clear h b0 hbw
  have HOK : Hid (SlOk rs i j ↔ (Vld rs ∧ 0 ≤ i ∧ i < (n : Int) ∧ 0 ≤ j ∧ j < (n : Int) ∧ i ≠ j)) := by
    show SlOk rs i j ↔ _
    unfold SlOk
    rw [hl]
  have HL := Lib.hid hl
  clear hl
  by_cases g : Vld rs
  · have HV : Hid (∀ W, Below w.heap.size w W → Calls Try.prog 56 #[.slice A n c] W (Ret (fun v _ => v = .bool true) W)) := fun W hb => by
      rw [← vld_true g]
      exact rvalid_any A n c rs W (HR.out.below hb)
    have G := Lib.hid g
    by_cases g1 : i < 0
    · have d1 : decide (i < 0) = true := by simpa using g1
      have HNO := Lib.hid (SlopeR.bad (rs := rs) (i := i) (j := j) (by rw [HOK.out]; omega))
      go_enter Try.func29, Try.ntmps29
      go_wp2_with fail
      rw [← hW0]
      clear hW0
      refine (HV.out W0 HBW.out).mono ?_
      rintro e w1 ⟨v1, rfl, rfl, hb1⟩
      have hW1 := bt HBW.out hb1
      have b1 := HB0.out.below hb1
      have k1 := b1.cells
      have kf := b1.free
      simp only [cellsAre, Nat.zero_add, Nat.reduceAdd, and_true] at k1
      clear hb1
      have hh1 : Held (w.heap.size) 2 TF w1 w1 := b1.heldS
      have r1 := (rules (w.heap.size) 2 TF w1).some
      go_wp2
      (try simp only [Exit.inBlock, Exit.then])
      refine bodyPost_ret (v := .tuple #[.agg #[.int .i64 0, .int .i64 0], .int .i64 1]) (by simp [results, Try.results29, go_sem, r1 _ hh1]) rfl ?_
      have hst2 := Held.set_ (Held.set_ (hh1.here) 0 (.int .i64 0)) 1 (.int .i64 0)
      exact ⟨_, rfl, HNO.out, (hh1.trans2 hst2).below hW1 (by omega)⟩
    by_cases g2 : i < (n : Int)
    rotate_left
    · have d1 : decide (i < 0) = false := by simp; omega
      have d2 : decide ((n : Int) ≤ i) = true := by simp; omega
      have HNO := Lib.hid (SlopeR.bad (rs := rs) (i := i) (j := j) (by rw [HOK.out]; omega))
      go_enter Try.func29, Try.ntmps29
      go_wp2_with fail
      rw [← hW0]
      clear hW0
      refine (HV.out W0 HBW.out).mono ?_
      rintro e w1 ⟨v1, rfl, rfl, hb1⟩
      have hW1 := bt HBW.out hb1
      have b1 := HB0.out.below hb1
      have k1 := b1.cells
      have kf := b1.free
      simp only [cellsAre, Nat.zero_add, Nat.reduceAdd, and_true] at k1
      clear hb1
      have hh1 : Held (w.heap.size) 2 TF w1 w1 := b1.heldS
      have r1 := (rules (w.heap.size) 2 TF w1).some
      go_wp2
      (try simp only [Exit.inBlock, Exit.then])
      refine bodyPost_ret (v := .tuple #[.agg #[.int .i64 0, .int .i64 0], .int .i64 1]) (by simp [results, Try.results29, go_sem, r1 _ hh1]) rfl ?_
      have hst2 := Held.set_ (Held.set_ (hh1.here) 0 (.int .i64 0)) 1 (.int .i64 0)
      exact ⟨_, rfl, HNO.out, (hh1.trans2 hst2).below hW1 (by omega)⟩
    by_cases g3 : j < 0
    · have d1 : decide (i < 0) = false := by simp; omega
      have d2 : decide ((n : Int) ≤ i) = false := by simp; omega
      have d3 : decide (j < 0) = true := by simpa using g3
      have HNO := Lib.hid (SlopeR.bad (rs := rs) (i := i) (j := j) (by rw [HOK.out]; omega))
      go_enter Try.func29, Try.ntmps29
      go_wp2_with fail
      rw [← hW0]
      clear hW0
      refine (HV.out W0 HBW.out).mono ?_
      rintro e w1 ⟨v1, rfl, rfl, hb1⟩
      have hW1 := bt HBW.out hb1
      have b1 := HB0.out.below hb1
      have k1 := b1.cells
      have kf := b1.free
      simp only [cellsAre, Nat.zero_add, Nat.reduceAdd, and_true] at k1
      clear hb1
      have hh1 : Held (w.heap.size) 2 TF w1 w1 := b1.heldS
      have r1 := (rules (w.heap.size) 2 TF w1).some
      go_wp2
      (try simp only [Exit.inBlock, Exit.then])
      refine bodyPost_ret (v := .tuple #[.agg #[.int .i64 0, .int .i64 0], .int .i64 1]) (by simp [results, Try.results29, go_sem, r1 _ hh1]) rfl ?_
      have hst2 := Held.set_ (Held.set_ (hh1.here) 0 (.int .i64 0)) 1 (.int .i64 0)
      exact ⟨_, rfl, HNO.out, (hh1.trans2 hst2).below hW1 (by omega)⟩
    by_cases g4 : j < (n : Int)
    rotate_left
    · have d1 : decide (i < 0) = false := by simp; omega
      have d2 : decide ((n : Int) ≤ i) = false := by simp; omega
      have d3 : decide (j < 0) = false := by simp; omega
      have d4 : decide ((n : Int) ≤ j) = true := by simp; omega
      have HNO := Lib.hid (SlopeR.bad (rs := rs) (i := i) (j := j) (by rw [HOK.out]; omega))
      go_enter Try.func29, Try.ntmps29
      go_wp2_with fail
      rw [← hW0]
      clear hW0
      refine (HV.out W0 HBW.out).mono ?_
      rintro e w1 ⟨v1, rfl, rfl, hb1⟩
      have hW1 := bt HBW.out hb1
      have b1 := HB0.out.below hb1
      have k1 := b1.cells
      have kf := b1.free
      simp only [cellsAre, Nat.zero_add, Nat.reduceAdd, and_true] at k1
      clear hb1
      have hh1 : Held (w.heap.size) 2 TF w1 w1 := b1.heldS
      have r1 := (rules (w.heap.size) 2 TF w1).some
      go_wp2
      (try simp only [Exit.inBlock, Exit.then])
      refine bodyPost_ret (v := .tuple #[.agg #[.int .i64 0, .int .i64 0], .int .i64 1]) (by simp [results, Try.results29, go_sem, r1 _ hh1]) rfl ?_
      have hst2 := Held.set_ (Held.set_ (hh1.here) 0 (.int .i64 0)) 1 (.int .i64 0)
      exact ⟨_, rfl, HNO.out, (hh1.trans2 hst2).below hW1 (by omega)⟩
    by_cases g5 : i = j
    · have d1 : decide (i < 0) = false := by simp; omega
      have d2 : decide ((n : Int) ≤ i) = false := by simp; omega
      have d3 : decide (j < 0) = false := by simp; omega
      have d4 : decide ((n : Int) ≤ j) = false := by simp; omega
      have HNO := Lib.hid (SlopeR.bad (rs := rs) (i := i) (j := j) (by rw [HOK.out]; omega))
      subst g5
      go_enter Try.func29, Try.ntmps29
      go_wp2_with fail
      rw [← hW0]
      clear hW0
      refine (HV.out W0 HBW.out).mono ?_
      rintro e w1 ⟨v1, rfl, rfl, hb1⟩
      have hW1 := bt HBW.out hb1
      have b1 := HB0.out.below hb1
      have k1 := b1.cells
      have kf := b1.free
      simp only [cellsAre, Nat.zero_add, Nat.reduceAdd, and_true] at k1
      clear hb1
      have hh1 : Held (w.heap.size) 2 TF w1 w1 := b1.heldS
      have r1 := (rules (w.heap.size) 2 TF w1).some
      go_wp2
      (try simp only [Exit.inBlock, Exit.then])
      refine bodyPost_ret (v := .tuple #[.agg #[.int .i64 0, .int .i64 0], .int .i64 1]) (by simp [results, Try.results29, go_sem, r1 _ hh1]) rfl ?_
      have hst2 := Held.set_ (Held.set_ (hh1.here) 0 (.int .i64 0)) 1 (.int .i64 0)
      exact ⟨_, rfl, HNO.out, (hh1.trans2 hst2).below hW1 (by omega)⟩
    obtain ⟨I, hI⟩ : ∃ I : Nat, i = (I : Int) := ⟨i.toNat, by omega⟩
    obtain ⟨J, hJ⟩ : ∃ J : Nat, j = (J : Int) := ⟨j.toNat, by omega⟩
    subst hI hJ
    have hi' : I < n := by omega
    have hj' : J < n := by omega
    have hne : I ≠ J := by omega
    have HSO := Lib.hid (HOK.out.2 ⟨g, by omega, by omega, by omega, by omega, by omega⟩)
    obtain ⟨sn, sd, hbt, s1, s2, s3, s4, hq⟩ := between_q g (I := I) (J := J) (by have := HL.out; omega) (by have := HL.out; omega) hne
    obtain ⟨ti1, ti2, yi1, yi2⟩ := g.tm_bd (i := I) (by have := HL.out; omega)
    obtain ⟨tj1, tj2, yj1, yj2⟩ := g.tm_bd (i := J) (by have := HL.out; omega)
    obtain ⟨b, o, rfl, _⟩ := HR.out.at_ (by omega)
    have HKC : Hid (∀ w', Below w.heap.size w w' → w'.cell? ⟨b, o + I * 2, none⟩ = some (.int .i64 (tm rs I)) ∧ w'.cell? ⟨b, o + I * 2 + 1, none⟩ = some (.int .i64 (ofs rs I)) ∧ w'.cell? ⟨b, o + J * 2, none⟩ = some (.int .i64 (tm rs J)) ∧ w'.cell? ⟨b, o + J * 2 + 1, none⟩ = some (.int .i64 (ofs rs J))) := fun w' hb => by
      obtain ⟨b', o', he, hcell⟩ := (HR.out.below hb).at_ (by omega)
      injection he with he
      injection he with h1 h2 _
      subst h1 h2
      exact ⟨(hcell I hi').1, (hcell I hi').2, (hcell J hj').1, (hcell J hj').2⟩
    have HBT : Hid (∀ W, Calls Try.prog 73 #[.agg #[.int .i64 (tm rs I), .int .i64 (ofs rs I)], .agg #[.int .i64 (tm rs J), .int .i64 (ofs rs J)]] W (Ret (fun v _ => v = .agg #[.int .i64 sn, .int .i64 sd]) W)) := fun W => by
      rw [← hbt]
      exact rbetween_any _ _ _ _ W ⟨ti1, ti2, yi1, yi2⟩ ⟨tj1, tj2, yj1, yj2⟩
    obtain ⟨ti, hti⟩ : ∃ x, tm rs I = x := ⟨_, rfl⟩
    obtain ⟨yi, hyi⟩ : ∃ x, ofs rs I = x := ⟨_, rfl⟩
    obtain ⟨tj, htj⟩ : ∃ x, tm rs J = x := ⟨_, rfl⟩
    obtain ⟨yj, hyj⟩ : ∃ x, ofs rs J = x := ⟨_, rfl⟩
    rw [hti, hyi, htj, hyj] at HKC HBT
    clear hbt ti1 ti2 yi1 yi2 tj1 tj2 yj1 yj2 hti hyi htj hyj hi' hj' hne
    have e1 : rn sn sd = sn := rn_p _ _ s3
    have e2 : rd sd = sd := by unfold rd; omega
    have HRAT : Hid (∀ W, Calls Try.prog 74 #[.agg #[.int .i64 sn, .int .i64 sd]] W (Ret (fun v w' => WQ w' v sn sd) W)) := fun W => by
      have := rrat_any sn sd W (by omega) (by omega) (by omega) (by omega) (by omega)
      rw [e1, e2] at this
      exact this
    have HFR : Hid (∀ v W, WQ W v sn sd → Calls Try.prog 78 #[v] W (Ret (fun v' _ => ∃ a b e : Int, v' = .tuple #[.agg #[.int .i64 a, .int .i64 b], .int .i64 e] ∧ FracQ (slQ rs I J) v') W)) := fun v W hw => by
      refine (wfrac_any v sn sd W hw (by have := sz_small sn (by omega) (by omega); omega) (by have := sz_small sd (by omega) (by omega); omega)).mono ?_
      rintro e w' ⟨v', he, hfr, hb⟩
      have hfq := hfr.q s3
      rw [hq] at hfq
      refine ⟨v', he, ?_, hb⟩
      by_cases hf : fitQ (slQ rs I J)
      · exact ⟨_, _, _, hfq.1 hf, hfq⟩
      · exact ⟨_, _, _, hfq.2 hf, hfq⟩
    clear e1 e2 s1 s2 s3 s4 hq g
    have d1 : decide ((I : Int) < 0) = false := by simp
    have d2 : decide ((n : Int) ≤ (I : Int)) = false := by simp; omega
    have d3 : decide ((J : Int) < 0) = false := by simp
    have d4 : decide ((n : Int) ≤ (J : Int)) = false := by simp; omega
    have d5 : ((I : Int) == (J : Int)) = false := by simp; omega
    go_enter Try.func29, Try.ntmps29
    go_wp2_with fail
    rw [← hW0]
    clear hW0
    refine (HV.out W0 HBW.out).mono ?_
    rintro e w1 ⟨v1, rfl, rfl, hb1⟩
    have hW1 := bt HBW.out hb1
    have b1 := HB0.out.below hb1
    clear hb1
    go_wp2_with fail
    have hst : Held (w.heap.size) 2 TF w1 w1.drew := b1.heldS.drew
    have r1 := (rules (w.heap.size) 2 TF w1).some
    have r2 := (rules (w.heap.size) 2 TF w1).free
    have k0 := fun w' (hh : Held (w.heap.size) 2 TF w1 w') => HKC.out w' (hh.below hW1 (Nat.le_refl _))
    clear b1
    go_region_held3 (fun w' => Held (w.heap.size) 2 TF w1 w') (first | assumption | exact Held.trans_ (by assumption) (by assumption) | exact Held.set_ (Held.set_ ((by assumption)) _ _) _ _)
      (first | (go_at_call 78; have tk := hb3; refine (HFR.out _ _ ⟨_, _, _, _, _, _, rfl, hx3_0, hx3_1, hp3⟩).mono ?_; rintro e w4 ⟨v4, rfl, ⟨fa, fb, fe, rfl, hfq⟩, hb4⟩; have hh4 : Held (w.heap.size) 2 TF w1 w4 := hh3.trans_ hb4) | (go_at_call 74; have tk := hb2; refine (HRAT.out _).mono ?_; rintro e w3 ⟨v3, rfl, ⟨A3_0, n3_0, c3_0, A3_1, n3_1, c3_1, rfl, hx3_0, hx3_1, hp3⟩, hb3⟩; have hh3 : Held (w.heap.size) 2 TF w1 w3 := hh2.trans_ hb3) | (go_at_call 73; refine (HBT.out _).mono ?_; rintro e w2 ⟨v2, rfl, rfl, hb2⟩; have hh2 : Held (w.heap.size) 2 TF w1 w2 := hst.trans_ hb2))
    go_wp2
    (try simp only [Exit.inBlock, Exit.then])
    refine bodyPost_ret (v := .tuple #[.agg #[.int .i64 fa, .int .i64 fb], .int .i64 fe]) (by simp [results, Try.results29, go_sem, r1 _ hh4]) rfl ?_
    have hst2 := Held.set_ (Held.set_ (hh4.here) 0 (.int .i64 fa)) 1 (.int .i64 fb)
    exact ⟨_, rfl, ⟨fun _ => hfq, fun hno => absurd HSO.out hno⟩, (hh4.trans2 hst2).below hW1 (by omega)⟩
  · have HV : Hid (∀ W, Below w.heap.size w W → Calls Try.prog 56 #[.slice A n c] W (Ret (fun v _ => v = .bool false) W)) := fun W hb => by
      rw [← vld_false g]
      exact rvalid_any A n c rs W (HR.out.below hb)
    have HNO := Lib.hid (SlopeR.bad (rs := rs) (i := i) (j := j) (by rw [HOK.out]; exact fun h => g h.1))
    go_enter Try.func29, Try.ntmps29
    go_wp2_with fail
    rw [← hW0]
    clear hW0
    refine (HV.out W0 HBW.out).mono ?_
    rintro e w1 ⟨v1, rfl, rfl, hb1⟩
    have hW1 := bt HBW.out hb1
    have b1 := HB0.out.below hb1
    have k1 := b1.cells
    have kf := b1.free
    simp only [cellsAre, Nat.zero_add, Nat.reduceAdd, and_true] at k1
    clear hb1
    have hh1 : Held (w.heap.size) 2 TF w1 w1 := b1.heldS
    have r1 := (rules (w.heap.size) 2 TF w1).some
    go_wp2
    (try simp only [Exit.inBlock, Exit.then])
    refine bodyPost_ret (v := .tuple #[.agg #[.int .i64 0, .int .i64 0], .int .i64 1]) (by simp [results, Try.results29, go_sem, r1 _ hh1]) rfl ?_
    have hst2 := Held.set_ (Held.set_ (hh1.here) 0 (.int .i64 0)) 1 (.int .i64 0)
    exact ⟨_, rfl, HNO.out, (hh1.trans2 hst2).below hW1 (by omega)⟩
end Go.Proofs.Tb
