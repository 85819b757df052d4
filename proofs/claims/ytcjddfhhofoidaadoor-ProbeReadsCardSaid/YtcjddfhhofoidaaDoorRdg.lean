/- ProbeReads returns true. -/
import Derived.Test.YtcjddfhhofoidaaDoorRde
import Derived.Test.YtcjddfhhofoidaaDoorRdf
import Derived.Test.YtcjddfhhofoidaaDoorOpc
import Derived.Test.YtcjddfhhofoidaaDoorRc
set_option linter.unusedVariables false
set_option linter.unusedSimpArgs false
namespace Go.Proofs.Tb
open Go.RowKit
attribute [local go_sem] cell_set_same

/-- Each fault of a set stands in just one end of a plan for it. -/
theorem rd_one {ts : List Tt} : ∀ (f : Nat) (set way : List Int) (plan r : List Tt) (es : List En), rdF ts f set way plan = some (es, r) → ∀ x : Int, (x ∈ set → ∃ e, es.filter (fun e => decide (x ∈ e.1)) = [e]) ∧ (x ∉ set → es.filter (fun e => decide (x ∈ e.1)) = [])
  | 0, _, _, _, _, _, e => by simp [rdF] at e
  | _ + 1, _, _, [], _, _, e => by simp [rdF] at e
  | f + 1, set, way, b :: rest, r, es, e => fun x => by
    unfold rdF at e
    by_cases hb : b.1 = -1
    · rw [if_pos hb] at e
      split at e
      · cases e
      · split at e
        · injection e with e
          injection e with e1 e2
          subst e1
          constructor
          · intro hx; exact ⟨(set, way), by simp [hx]⟩
          · intro hx; simp [hx]
        · cases e
    · rw [if_neg hb] at e
      split at e
      · split at e
        · cases e
        · rename_i e1 r1 h1
          split at e
          · cases e
          · rename_i e2 r2 h2
            injection e with e
            injection e with e3 e4
            subst e3
            have g1 := rd_one f _ _ _ _ _ h1 x
            have g2 := rd_one f _ _ _ _ _ h2 x
            rw [List.filter_append]
            by_cases hp : shB (tS ts b.1.toNat) x = true
            · have n2 : x ∉ set.filter (fun x => !shB (tS ts b.1.toNat) x) := fun hm => by
                have := (List.mem_filter.1 hm).2
                rw [hp] at this
                cases this
              rw [g2.2 n2]
              constructor
              · intro hx
                obtain ⟨e0, he0⟩ := g1.1 (List.mem_filter.2 ⟨hx, hp⟩)
                exact ⟨e0, by rw [he0]; rfl⟩
              · intro hx
                rw [g1.2 fun hm => hx (List.mem_filter.1 hm).1]; rfl
            · have hp' : shB (tS ts b.1.toNat) x = false := by simpa using hp
              have n1 : x ∉ set.filter (fun x => shB (tS ts b.1.toNat) x) := fun hm => hp (List.mem_filter.1 hm).2
              rw [g1.2 n1]
              constructor
              · intro hx
                obtain ⟨e0, he0⟩ := g2.1 (List.mem_filter.2 ⟨hx, by rw [hp']; rfl⟩)
                exact ⟨e0, by rw [he0]; rfl⟩
              · intro hx
                rw [g2.2 fun hm => hx (List.mem_filter.1 hm).1]; rfl
      · cases e
/-- The end of a fault. -/
theorem lastE_at {ts : List Tt} {f n : Nat} {plan r : List Tt} {es : List En} {way : List Int} (h : rdF ts f (upL n) way plan = some (es, r)) {k : Nat} (hk : k < n) {e : En} (he : e ∈ es) (hm : (k : Int) ∈ e.1) : lastE k es = some e := by
  obtain ⟨e0, h0⟩ := (rd_one f _ _ _ _ _ h (k : Int)).1 (upL_mem'.2 ⟨by omega, by omega⟩)
  have : e ∈ es.filter (fun e => decide ((k : Int) ∈ e.1)) := List.mem_filter.2 ⟨he, by simpa using hm⟩
  unfold lastE
  rw [h0] at this ⊢
  rw [List.mem_singleton] at this
  rw [this]
  rfl
theorem lastE_ex {ts : List Tt} {f n : Nat} {plan r : List Tt} {es : List En} {way : List Int} (h : rdF ts f (upL n) way plan = some (es, r)) {k : Nat} (hk : k < n) : ∃ e ∈ es, (k : Int) ∈ e.1 := by
  obtain ⟨e0, h0⟩ := (rd_one f _ _ _ _ _ h (k : Int)).1 (upL_mem'.2 ⟨by omega, by omega⟩)
  have : e0 ∈ es.filter (fun e => decide ((k : Int) ∈ e.1)) := by rw [h0]; exact List.mem_singleton.2 rfl
  obtain ⟨h1, h2⟩ := List.mem_filter.1 this
  exact ⟨e0, h1, by simpa using h2⟩
set_option maxHeartbeats 6400000 in
set_option maxRecDepth 100000 in
theorem reads_any (A A' A3 : Option Addr) (n c m d q d3 : Nat) (x : Int) (ws : List Int) (ts bs : List Tt) (w : World) (h : Il w A n c ws) (h' : Ts w A' m d ts) (h3 : Ts w A3 q d3 bs) (ht : Tab w) :
    Calls Tryd.prog 13 #[.agg #[.slice A n c, .slice A' m d], .slice A3 q d3, .int .i64 x] w (Ret (fun v _ => v = .bool true) w) := by
  have hq3 := h3.le
  have hd3 := h3.cap
  have H := Lib.hid h
  have H' := Lib.hid h'
  have H3 := Lib.hid h3
  have HT := Lib.hid ht
  clear h h' h3 ht
  go_enter Tryd.func13, Tryd.ntmps13
  go_upto_region 1 with fail
  refine wp_world (fun W0 => Blk W0 w.heap.size TCA #[.slice A n c, .slice A' m d] ∧ Ext w W0) (by exact ⟨Blk.new_ _ _ rfl, Ext.allocR _ _⟩) ?_
  rintro W0 ⟨bX, x0⟩
  obtain ⟨pX, hpX⟩ : ∃ p, w.heap.size = p := ⟨_, rfl⟩
  rw [hpX] at bX ⊢
  clear hpX
  have cX := bX.cells
  simp only [cellsAre, Nat.zero_add, Nat.reduceAdd, and_true] at cX
  go_wp2_with fail
  refine (few_any A A' n c m d ws ts 10 16 (by omega) (by omega) W0 (H.out.below x0) (H'.out.below x0)).mono ?_
  rintro e y1 ⟨z1, rfl, ⟨vf, vt, rfl, hf, ht⟩, hby1⟩
  obtain ⟨B1, n1, c1, hvf, il1⟩ := hf.il
  subst hvf
  obtain ⟨B2, n2, c2, hvt, sl2⟩ := ht.slp2
  subst hvt
  have ts2 := sl2.ts
  obtain ⟨wf, hwf⟩ : ∃ x, fewF ws 10 = x := ⟨_, rfl⟩
  obtain ⟨tf, htf⟩ : ∃ x, fewT ts 16 = x := ⟨_, rfl⟩
  rw [hwf] at il1
  rw [htf] at ts2
  have l1 := il1.le
  have l1' := il1.cap
  have l2 := ts2.le
  have l2' := ts2.cap
  have HL1 := Lib.hid il1.len
  have HL2 := Lib.hid ts2.len
  have J1 := Lib.hid il1
  have J2 := Lib.hid ts2
  have Y1 := Lib.hid (bt x0 hby1)
  clear hf ht sl2 il1 ts2 hwf htf hby1 cX bX x0
  go_wp2_with fail
  refine (brief_any A3 q d3 bs y1 (H3.out.below Y1.out)).mono ?_
  rintro e y2 ⟨z2, rfl, hq2, hby2⟩
  obtain ⟨A4, n4, c4, hv4, sl4⟩ := hq2.slp2
  subst hv4
  obtain ⟨bl, hbl⟩ : ∃ x, brfL bs = x := ⟨_, rfl⟩
  rw [hbl] at sl4
  have l4 := sl4.le
  have l4' := sl4.cap
  have hn4 : n4 ≤ 40 := by rw [← sl4.len, ← hbl]; exact brfL_len bs
  have T4 := Lib.hid sl4.ts
  have I1 := Lib.hid (J1.out.below hby2)
  have T2 := Lib.hid (J2.out.below hby2)
  have Y2 := Lib.hid (bt Y1.out hby2)
  clear hq2 hby2 sl4 J1 J2 hbl
  go_upto_region 2 with fail
  have b3 : Blk (y2.alloc (.cells #[.slice B1 n1 c1, .slice B2 n2 c2] TCA)) y2.heap.size TCA #[.slice B1 n1 c1, .slice B2 n2 c2] := Blk.new_ _ _ rfl
  have x3 : Ext y2 (y2.alloc (.cells #[.slice B1 n1 c1, .slice B2 n2 c2] TCA)) := Ext.allocR _ _
  refine wp_world (fun W3 => Blk W3 y2.heap.size TCA #[.slice B1 n1 c1, .slice B2 n2 c2] ∧ Ext y2 W3) ⟨b3, x3⟩ ?_
  clear b3 x3
  rintro Y3 ⟨b3, x3⟩
  obtain ⟨g, hg⟩ : ∃ g, y2.heap.size = g := ⟨_, rfl⟩
  rw [hg] at b3 ⊢
  have B3 := Lib.hid b3
  have X3 := Lib.hid x3
  have YX3 := Lib.hid (bt Y2.out x3)
  have c3 := b3.cells
  simp only [cellsAre, Nat.zero_add, Nat.reduceAdd, and_true] at c3
  clear b3 x3 hg
  go_wp2_with fail
  refine (rcost_any B1 B2 A4 n1 c1 n2 c2 n4 c4 wf tf bl Y3 (I1.out.below X3.out) (T2.out.below X3.out) (T4.out.below X3.out) (HT.out.below YX3.out) (by omega)).mono ?_
  rintro e y4 ⟨z4, rfl, hz4, hby4⟩
  have XB4 := Lib.hid (bt X3.out hby4)
  have YX4 := Lib.hid (bt YX3.out hby4)
  have B4 := Lib.hid (B3.out.below hby4)
  have k4 := B4.out.cells
  simp only [cellsAre, Nat.zero_add, Nat.reduceAdd, and_true] at k4
  have HZ4 := Lib.hid hz4
  clear c3 B3 hby4 hz4
  by_cases hc : Cv wf tf
  rotate_left
  · have hz4' := HZ4.out.1 hc
    subst hz4'
    have HC := Lib.hid hc
    clear HZ4 hc
    go_wp2_with fail
    refine (rways_any B1 B2 A4 n1 c1 n2 c2 n4 c4 x wf tf bl y4 (I1.out.below XB4.out) (T2.out.below XB4.out) (T4.out.below XB4.out) (HT.out.below YX4.out) (by omega)).mono ?_
    rintro e y5 ⟨z5, rfl, hz5, hby5⟩
    have XB5 := Lib.hid (bt XB4.out hby5)
    have YX5 := Lib.hid (bt YX4.out hby5)
    have B5 := Lib.hid (B4.out.below hby5)
    have k5 := B5.out.cells
    simp only [cellsAre, Nat.zero_add, Nat.reduceAdd, and_true] at k5
    clear k4 B4 hby5
    have hz5' := hz5.1 (Or.inl HC.out)
    subst hz5'
    clear hz5
    go_wp2_with fail
    refine (valid_any B1 B2 n1 c1 n2 c2 wf tf y5 (I1.out.below XB5.out) (T2.out.below XB5.out)).mono ?_
    rintro e y6 ⟨z6, rfl, hz6, hby6⟩
    rw [cvB_f HC.out] at hz6
    subst hz6
    have YX6 := Lib.hid (bt YX5.out hby6)
    clear hby6 k5
    go_wp2_with fail
    refine (lives_any y6 (HT.out.below YX6.out)).mono ?_
    rintro e y7 ⟨z7, rfl, rfl, hby7⟩
    have YX7 := Lib.hid (bt YX6.out hby7)
    clear hby7
    go_wp2
    go_returns
    exact ⟨_, rfl, rfl, YX7.out⟩
  · have HC := Lib.hid hc
    have hn1 : n1 ≤ 10 := by rw [← HL1.out]; exact hc.len10
    have hn2 : n2 ≤ 16 := by rw [← HL2.out]; exact hc.1.2.2
    obtain ⟨ro, hro⟩ : ∃ ro, okR (rdF tf n4 (upL n1) [] bl) = ro := ⟨_, rfl⟩
    have HRO := Lib.hid hro
    clear hc hro
    cases ro with
    | false =>
      have hz4' := (HZ4.out.2 HC.out).2 HRO.out
      subst hz4'
      clear HZ4
      go_wp2_with fail
      refine (rways_any B1 B2 A4 n1 c1 n2 c2 n4 c4 x wf tf bl y4 (I1.out.below XB4.out) (T2.out.below XB4.out) (T4.out.below XB4.out) (HT.out.below YX4.out) (by omega)).mono ?_
      rintro e y5 ⟨z5, rfl, hz5, hby5⟩
      have XB5 := Lib.hid (bt XB4.out hby5)
      have YX5 := Lib.hid (bt YX4.out hby5)
      have B5 := Lib.hid (B4.out.below hby5)
      have k5 := B5.out.cells
      simp only [cellsAre, Nat.zero_add, Nat.reduceAdd, and_true] at k5
      clear k4 B4 hby5
      by_cases hx : x < 0 ∨ (n1 : Int) ≤ x
      · have hz5' := hz5.1 (Or.inr hx)
        subst hz5'
        clear hz5
        go_wp2_with fail
        refine (valid_any B1 B2 n1 c1 n2 c2 wf tf y5 (I1.out.below XB5.out) (T2.out.below XB5.out)).mono ?_
        rintro e y6 ⟨z6, rfl, hz6, hby6⟩
        rw [cvB_t HC.out] at hz6
        subst hz6
        have XB6 := Lib.hid (bt XB5.out hby6)
        have YX6 := Lib.hid (bt YX5.out hby6)
        have X56 := Lib.hid hby6
        have B6 := Lib.hid (B5.out.below hby6)
        have k6 := B6.out.cells
        simp only [cellsAre, Nat.zero_add, Nat.reduceAdd, and_true] at k6
        clear hby6 k5 B5
        go_wp2_with fail
        refine (zends_any B1 B2 A4 n1 c1 n2 c2 n4 c4 wf tf bl y6 (I1.out.below XB6.out) (T2.out.below XB6.out) (T4.out.below XB6.out) (by omega) (by omega) (by omega)).mono ?_
        rintro e y7 ⟨z7, rfl, ⟨A5, n5, c5, es', rfl, hsle, hn5, hes'⟩, hby7⟩
        have l5 := hsle.le
        have l5' := hsle.cap
        have HSE := Lib.hid hsle
        have HE' := Lib.hid hes'
        have XB7 := Lib.hid (bt XB6.out hby7)
        have YX7 := Lib.hid (bt YX6.out hby7)
        have X57 := Lib.hid (show Below y5.heap.size y5 y7 from bt X56.out hby7)
        have B7 := Lib.hid (B6.out.below hby7)
        have k7 := B7.out.cells
        simp only [cellsAre, Nat.zero_add, Nat.reduceAdd, and_true] at k7
        have X77 := Lib.hid (Ext.refl y7)
        clear hsle hes' hby7 k6 B6
        rw [HRO.out]
        go_wp2_with fail
        refine (lives_any y7 (HT.out.below YX7.out)).mono ?_
        rintro e y9 ⟨z9, rfl, rfl, hby9⟩
        have YX9 := Lib.hid (bt YX7.out hby9)
        have X79 := Lib.hid (show Ext y7 y9 from bt X77.out hby9)
        have B9 := Lib.hid (B7.out.below hby9)
        have k9 := B9.out.cells
        simp only [cellsAre, Nat.zero_add, Nat.reduceAdd, and_true] at k9
        clear hby9 k7
        by_cases hx0 : x < 0
        · go_wp2
          go_returns
          exact ⟨_, rfl, rfl, YX9.out⟩
        · have hx1 : (n1 : Int) ≤ x := hx.resolve_left hx0
          go_wp2
          go_returns
          exact ⟨_, rfl, rfl, YX9.out⟩
      · have hx0 : ¬ x < 0 := fun h => hx (Or.inl h)
        have hx1 : ¬ (n1 : Int) ≤ x := fun h => hx (Or.inr h)
        obtain ⟨k, rfl⟩ : ∃ k : Nat, x = (k : Int) := ⟨x.toNat, by omega⟩
        have hz5' := (hz5.2 HC.out k rfl (by omega)).1 HRO.out
        subst hz5'
        clear hz5 hx
        go_wp2_with fail
        refine (valid_any B1 B2 n1 c1 n2 c2 wf tf y5 (I1.out.below XB5.out) (T2.out.below XB5.out)).mono ?_
        rintro e y6 ⟨z6, rfl, hz6, hby6⟩
        rw [cvB_t HC.out] at hz6
        subst hz6
        have XB6 := Lib.hid (bt XB5.out hby6)
        have YX6 := Lib.hid (bt YX5.out hby6)
        have X56 := Lib.hid hby6
        have B6 := Lib.hid (B5.out.below hby6)
        have k6 := B6.out.cells
        simp only [cellsAre, Nat.zero_add, Nat.reduceAdd, and_true] at k6
        clear hby6 k5 B5
        go_wp2_with fail
        refine (zends_any B1 B2 A4 n1 c1 n2 c2 n4 c4 wf tf bl y6 (I1.out.below XB6.out) (T2.out.below XB6.out) (T4.out.below XB6.out) (by omega) (by omega) (by omega)).mono ?_
        rintro e y7 ⟨z7, rfl, ⟨A5, n5, c5, es', rfl, hsle, hn5, hes'⟩, hby7⟩
        have l5 := hsle.le
        have l5' := hsle.cap
        have HSE := Lib.hid hsle
        have HE' := Lib.hid hes'
        have XB7 := Lib.hid (bt XB6.out hby7)
        have YX7 := Lib.hid (bt YX6.out hby7)
        have X57 := Lib.hid (show Below y5.heap.size y5 y7 from bt X56.out hby7)
        have B7 := Lib.hid (B6.out.below hby7)
        have k7 := B7.out.cells
        simp only [cellsAre, Nat.zero_add, Nat.reduceAdd, and_true] at k7
        have X77 := Lib.hid (Ext.refl y7)
        clear hsle hes' hby7 k6 B6
        rw [HRO.out]
        go_wp2_with fail
        refine (lives_any y7 (HT.out.below YX7.out)).mono ?_
        rintro e y9 ⟨z9, rfl, rfl, hby9⟩
        have YX9 := Lib.hid (bt YX7.out hby9)
        have X79 := Lib.hid (show Ext y7 y9 from bt X77.out hby9)
        have B9 := Lib.hid (B7.out.below hby9)
        have k9 := B9.out.cells
        simp only [cellsAre, Nat.zero_add, Nat.reduceAdd, and_true] at k9
        clear hby9 k7
        go_wp2
        go_returns
        exact ⟨_, rfl, rfl, YX9.out⟩
    | true =>
      obtain ⟨es, hes⟩ := okR_ex HRO.out
      have HES := Lib.hid hes
      have hz4' := (HZ4.out.2 HC.out).1 es hes
      obtain ⟨P, hP⟩ : ∃ P, csE wf tf es = P := ⟨_, rfl⟩
      rw [hP] at hz4'
      have HP := Lib.hid hP
      have hPP : (P == P) = true := by simp
      have hPN : (P != P) = false := by simp
      subst hz4'
      clear HZ4 hes hP
      go_wp2_with fail
      refine (rways_any B1 B2 A4 n1 c1 n2 c2 n4 c4 x wf tf bl y4 (I1.out.below XB4.out) (T2.out.below XB4.out) (T4.out.below XB4.out) (HT.out.below YX4.out) (by omega)).mono ?_
      rintro e y5 ⟨z5, rfl, hz5, hby5⟩
      have XB5 := Lib.hid (bt XB4.out hby5)
      have YX5 := Lib.hid (bt YX4.out hby5)
      have B5 := Lib.hid (B4.out.below hby5)
      have k5 := B5.out.cells
      simp only [cellsAre, Nat.zero_add, Nat.reduceAdd, and_true] at k5
      clear k4 B4 hby5
      by_cases hx : x < 0 ∨ (n1 : Int) ≤ x
      · have hz5' := hz5.1 (Or.inr hx)
        subst hz5'
        clear hz5
        go_wp2_with fail
        refine (valid_any B1 B2 n1 c1 n2 c2 wf tf y5 (I1.out.below XB5.out) (T2.out.below XB5.out)).mono ?_
        rintro e y6 ⟨z6, rfl, hz6, hby6⟩
        rw [cvB_t HC.out] at hz6
        subst hz6
        have XB6 := Lib.hid (bt XB5.out hby6)
        have YX6 := Lib.hid (bt YX5.out hby6)
        have X56 := Lib.hid hby6
        have B6 := Lib.hid (B5.out.below hby6)
        have k6 := B6.out.cells
        simp only [cellsAre, Nat.zero_add, Nat.reduceAdd, and_true] at k6
        clear hby6 k5 B5
        go_wp2_with fail
        refine (zends_any B1 B2 A4 n1 c1 n2 c2 n4 c4 wf tf bl y6 (I1.out.below XB6.out) (T2.out.below XB6.out) (T4.out.below XB6.out) (by omega) (by omega) (by omega)).mono ?_
        rintro e y7 ⟨z7, rfl, ⟨A5, n5, c5, es', rfl, hsle, hn5, hes'⟩, hby7⟩
        have l5 := hsle.le
        have l5' := hsle.cap
        have HSE := Lib.hid hsle
        have HE' := Lib.hid hes'
        have XB7 := Lib.hid (bt XB6.out hby7)
        have YX7 := Lib.hid (bt YX6.out hby7)
        have X57 := Lib.hid (show Below y5.heap.size y5 y7 from bt X56.out hby7)
        have B7 := Lib.hid (B6.out.below hby7)
        have k7 := B7.out.cells
        simp only [cellsAre, Nat.zero_add, Nat.reduceAdd, and_true] at k7
        have X77 := Lib.hid (Ext.refl y7)
        clear hsle hes' hby7 k6 B6
        rw [HRO.out]
        obtain rfl : es = es' := (HE'.out es HES.out).symm
        have HEA := Lib.hid (show ∀ e ∈ es, EOk n1 n2 e by
          have h1 := rd_ok (n := n1) n4 (upL n1) [] bl [] es (fun x hx => upL_mem'.1 hx) (by rw [upL_len]; omega) (fun k hk => by cases hk) (by simp; omega) HES.out
          rw [HL2.out] at h1
          exact h1)
        have HWB := Lib.hid (fun j => okF_all HC.out.2.1 j)
        have HTB := Lib.hid (fun j => cost_bd HC.out j)
        go_wp2_with fail
        refine (zcost_any B1 B2 A5 n1 c1 n2 c2 n5 c5 wf tf es y7 (I1.out.below XB7.out) (T2.out.below XB7.out) HSE.out HWB.out HTB.out HEA.out (by omega)).mono ?_
        rintro e y8 ⟨z8, rfl, rfl, hby8⟩
        rw [HP.out]
        have YX8 := Lib.hid (bt YX7.out hby8)
        have B8 := Lib.hid (B7.out.below hby8)
        have k8 := B8.out.cells
        simp only [cellsAre, Nat.zero_add, Nat.reduceAdd, and_true] at k8
        have X78 := Lib.hid (show Ext y7 y8 from hby8)
        clear hby8 k7
        go_wp2_with fail
        refine (lives_any y8 (HT.out.below YX8.out)).mono ?_
        rintro e y9 ⟨z9, rfl, rfl, hby9⟩
        have YX9 := Lib.hid (bt YX8.out hby9)
        have X79 := Lib.hid (show Ext y7 y9 from bt X78.out hby9)
        have B9 := Lib.hid (B8.out.below hby9)
        have k9 := B9.out.cells
        simp only [cellsAre, Nat.zero_add, Nat.reduceAdd, and_true] at k9
        clear hby9 k8
        by_cases hx0 : x < 0
        · go_wp2
          go_returns
          exact ⟨_, rfl, rfl, YX9.out⟩
        · have hx1 : (n1 : Int) ≤ x := hx.resolve_left hx0
          go_wp2
          go_returns
          exact ⟨_, rfl, rfl, YX9.out⟩
      · have hx0 : ¬ x < 0 := fun h => hx (Or.inl h)
        have hx1 : ¬ (n1 : Int) ≤ x := fun h => hx (Or.inr h)
        obtain ⟨k, rfl⟩ : ∃ k : Nat, x = (k : Int) := ⟨x.toNat, by omega⟩
        have hkn : k < n1 := by omega
        obtain ⟨A8, n8, c8, A9, n9, c9, hz5', il8, il9⟩ := (hz5.2 HC.out k rfl hkn).2 es HES.out
        subst hz5'
        have l8 := il8.le
        have l8' := il8.cap
        have l9 := il9.le
        have l9' := il9.cap
        have I8 := Lib.hid il8
        have I9 := Lib.hid il9
        clear hz5 hx il8 il9
        go_wp2_with fail
        refine (valid_any B1 B2 n1 c1 n2 c2 wf tf y5 (I1.out.below XB5.out) (T2.out.below XB5.out)).mono ?_
        rintro e y6 ⟨z6, rfl, hz6, hby6⟩
        rw [cvB_t HC.out] at hz6
        subst hz6
        have XB6 := Lib.hid (bt XB5.out hby6)
        have YX6 := Lib.hid (bt YX5.out hby6)
        have X56 := Lib.hid hby6
        have B6 := Lib.hid (B5.out.below hby6)
        have k6 := B6.out.cells
        simp only [cellsAre, Nat.zero_add, Nat.reduceAdd, and_true] at k6
        clear hby6 k5 B5
        go_wp2_with fail
        refine (zends_any B1 B2 A4 n1 c1 n2 c2 n4 c4 wf tf bl y6 (I1.out.below XB6.out) (T2.out.below XB6.out) (T4.out.below XB6.out) (by omega) (by omega) (by omega)).mono ?_
        rintro e y7 ⟨z7, rfl, ⟨A5, n5, c5, es', rfl, hsle, hn5, hes'⟩, hby7⟩
        have l5 := hsle.le
        have l5' := hsle.cap
        have HSE := Lib.hid hsle
        have HE' := Lib.hid hes'
        have XB7 := Lib.hid (bt XB6.out hby7)
        have YX7 := Lib.hid (bt YX6.out hby7)
        have X57 := Lib.hid (show Below y5.heap.size y5 y7 from bt X56.out hby7)
        have B7 := Lib.hid (B6.out.below hby7)
        have k7 := B7.out.cells
        simp only [cellsAre, Nat.zero_add, Nat.reduceAdd, and_true] at k7
        have X77 := Lib.hid (Ext.refl y7)
        clear hsle hes' hby7 k6 B6
        rw [HRO.out]
        obtain rfl : es = es' := (HE'.out es HES.out).symm
        have HEA := Lib.hid (show ∀ e ∈ es, EOk n1 n2 e by
          have h1 := rd_ok (n := n1) n4 (upL n1) [] bl [] es (fun x hx => upL_mem'.1 hx) (by rw [upL_len]; omega) (fun k hk => by cases hk) (by simp; omega) HES.out
          rw [HL2.out] at h1
          exact h1)
        have HWB := Lib.hid (fun j => okF_all HC.out.2.1 j)
        have HTB := Lib.hid (fun j => cost_bd HC.out j)
        go_wp2_with fail
        refine (zcost_any B1 B2 A5 n1 c1 n2 c2 n5 c5 wf tf es y7 (I1.out.below XB7.out) (T2.out.below XB7.out) HSE.out HWB.out HTB.out HEA.out (by omega)).mono ?_
        rintro e y8 ⟨z8, rfl, rfl, hby8⟩
        rw [HP.out]
        have YX8 := Lib.hid (bt YX7.out hby8)
        have B8 := Lib.hid (B7.out.below hby8)
        have k8 := B8.out.cells
        simp only [cellsAre, Nat.zero_add, Nat.reduceAdd, and_true] at k8
        have X78 := Lib.hid (show Ext y7 y8 from hby8)
        clear hby8 k7
        go_wp2_with fail
        refine (lives_any y8 (HT.out.below YX8.out)).mono ?_
        rintro e y9 ⟨z9, rfl, rfl, hby9⟩
        have YX9 := Lib.hid (bt YX8.out hby9)
        have X79 := Lib.hid (show Ext y7 y9 from bt X78.out hby9)
        have B9 := Lib.hid (B8.out.below hby9)
        have k9 := B9.out.cells
        simp only [cellsAre, Nat.zero_add, Nat.reduceAdd, and_true] at k9
        clear hby9 k8
        have HE9 := Lib.hid (HSE.out.below X79.out)
        have HEL := Lib.hid HSE.out.len
        have I89 := Lib.hid (I8.out.below (bt X57.out X79.out))
        have I99 := Lib.hid (I9.out.below (bt X57.out X79.out))
        clear I8 I9 HSE X57
        go_wp2_with fail
        go_loopw [16] (fun i wr => ∃ a : Nat, a ≤ n5 ∧ i = .int .i64 (a : Int) ∧ (∀ b, b < a → (k : Int) ∉ (es.getD b ([], [])).1) ∧ Ext y9 wr) (fun i _ => n5 - (intOf i).toNat)
        case atStart => exact ⟨0, by omega, rfl, fun b hb => absurd hb (by omega), Ext.refl _⟩
        case round =>
          obtain ⟨a, ha, rfl, hno, hx⟩ := hrel
          have HX := Lib.hid hx
          have HNO := Lib.hid hno
          clear hno
          by_cases han : a < n5
          · have pa : (a : Int) < (n5 : Int) := by omega
            obtain ⟨bE, oE, rfl, hcE⟩ := (HE9.out.below hx).at_ (by omega)
            obtain ⟨Af, nf, cf, Aw, nw, cw, ke1, ke2, if1, if2⟩ := hcE a han
            have HIN := Lib.hid (getD_in (d := ([], [])) (show a < es.length by rw [HEL.out]; exact han))
            obtain ⟨E, hE⟩ : ∃ E, es.getD a ([], []) = E := ⟨_, rfl⟩
            rw [hE] at if1 if2 HIN
            have lf := if1.le
            have lf' := if1.cap
            have lw := if2.le
            have lw' := if2.cap
            have IF1 := Lib.hid if1
            have IF2 := Lib.hid if2
            have KE1 := Lib.hid ke1
            have KE2 := Lib.hid ke2
            have HEE := Lib.hid hE
            obtain ⟨wo, rfl⟩ : ∃ wo, wo = wr := ⟨_, rfl⟩
            clear hcE if1 if2 hE hx
            go_wp2_with fail
            go_loopw [17] (fun i wr => ∃ b : Nat, b ≤ nf ∧ i = .int .i64 (b : Int) ∧ (∀ j, j < b → E.1.getD j 0 ≠ (k : Int)) ∧ Ext wo wr) (fun i _ => nf - (intOf i).toNat)
            case atStart => exact ⟨0, by omega, rfl, fun b hb => absurd hb (by omega), Ext.refl _⟩
            case round =>
              clear ke1 ke2
              obtain ⟨b, hb, rfl, hno2, hx2⟩ := hrel
              have HX2 := Lib.hid hx2
              have HN2 := Lib.hid hno2
              have q1 := Ext.cell hx2 KE1.out
              have q2 := Ext.cell hx2 KE2.out
              clear hno2
              by_cases hbn : b < nf
              · have pb : (b : Int) < (nf : Int) := by omega
                obtain ⟨bF, oF, rfl, hcF⟩ := (IF1.out.below hx2).at_ (by omega)
                have ckF := hcF b hbn
                have hbl := IF1.out.len
                have HFI := Lib.hid (getD_in (d := (0 : Int)) (show b < E.1.length by omega))
                obtain ⟨y, hy⟩ : ∃ y, E.1.getD b 0 = y := ⟨_, rfl⟩
                rw [hy] at ckF HFI
                have HY := Lib.hid hy
                clear hcF hx2 hbl hy
                by_cases hyk : y = (k : Int)
                · subst hyk
                  have hle := lastE_at HES.out hkn HIN.out HFI.out
                  have J8 := I89.out
                  have J9 := I99.out
                  rw [hle] at J8 J9
                  have J8' := Lib.hid (show Il y9 A8 n8 c8 E.2 from J8)
                  have J9' := Lib.hid (show Il y9 A9 n9 c9 E.1 from J9)
                  clear hle J8 J9 I89 I99
                  go_wp2_with fail
                  refine (lsame_any A8 Aw n8 c8 nw cw E.2 E.2 wr (J8'.out.below (bt HX.out HX2.out)) (IF2.out.below HX2.out)).mono ?_
                  rintro e z1 ⟨v1, rfl, rfl, bb1⟩
                  rw [sameB_t rfl]
                  have XZ := Lib.hid (bt HX2.out bb1)
                  have q3 := Ext.cell XZ.out KE1.out
                  clear bb1 q1 q2
                  go_wp2_with fail
                  refine (lsame_any A9 (some ⟨bF, oF, none⟩) n9 c9 nf cf E.1 E.1 z1 (J9'.out.below (bt HX.out XZ.out)) (IF1.out.below XZ.out)).mono ?_
                  rintro e z2 ⟨v2, rfl, rfl, bb2⟩
                  rw [sameB_t rfl]
                  have XE := Lib.hid (bt YX9.out (bt HX.out (bt XZ.out bb2)))
                  clear bb2 q3
                  go_wp2
                  go_returns
                  exact ⟨_, rfl, rfl, XE.out⟩
                · have hyb : (y == (k : Int)) = false := by simpa using hyk
                  have HN3 := Lib.hid (show ∀ j, j < b + 1 → E.1.getD j 0 ≠ (k : Int) from fun j hj => by
                    rcases Nat.lt_or_eq_of_le (Nat.le_of_lt_succ hj) with h | rfl
                    · exact HN2.out j h
                    · rw [HY.out]; exact hyk)
                  go_wp2
                  go_roundw
                  case rel => exact ⟨b + 1, by omega, by go_num, HN3.out, HX2.out⟩
                  case measure => simp [intOf]; omega
              · obtain rfl : b = nf := by omega
                have HN3 := Lib.hid (show ∀ b', b' < a + 1 → (k : Int) ∉ (es.getD b' ([], [])).1 from fun b' hb' => by
                  rcases Nat.lt_or_eq_of_le (Nat.le_of_lt_succ hb') with h | rfl
                  · exact HNO.out b' h
                  · rw [HEE.out]
                    intro hm
                    obtain ⟨j, hj, hje⟩ := List.getElem_of_mem hm
                    exact HN2.out j (by rw [← IF1.out.len]; exact hj) (by rw [List.getD_eq_getElem?_getD, List.getElem?_eq_getElem hj]; exact hje))
                have XZ := Lib.hid (bt HX.out HX2.out)
                clear hx2
                go_wp2
                go_roundw
                case rel => exact ⟨a + 1, by omega, by go_num, HN3.out, XZ.out⟩
                case measure => simp [intOf]; omega
          · exfalso
            obtain rfl : a = n5 := by omega
            obtain ⟨E, hEm, hEk⟩ := lastE_ex HES.out hkn
            obtain ⟨j, hj, hje⟩ := List.getElem_of_mem hEm
            refine HNO.out j (by rw [← HEL.out]; exact hj) ?_
            rw [List.getD_eq_getElem?_getD, List.getElem?_eq_getElem hj]
            show (k : Int) ∈ es[j].1
            rw [hje]; exact hEk
end Go.Proofs.Tb
