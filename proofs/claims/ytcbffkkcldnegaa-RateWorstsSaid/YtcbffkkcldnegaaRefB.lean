/- Contracts of the reference's numbers of any size, second part: sums and differences of lists of digits. -/
import Derived.Test.YtcbffkkcldnegaaRefA
set_option linter.unusedVariables false
set_option linter.unusedSimpArgs false
namespace Go.Proofs.Tb
open Go.RowKit
attribute [local go_sem] cell_set_same

theorem app_val (B k cy y : Nat) (cs : List Nat) (hk : cs.length = k) : val B (cs ++ [y]) + B ^ (k + 1) * cy = val B cs + B ^ k * y + B ^ (k + 1) * cy := by
  rw [val_append, hk]; simp [val]
set_option maxHeartbeats 3200000 in
set_option maxRecDepth 100000 in
theorem zplus_any (X Y : Option Addr) (nx cx ny cy : Nat) (xs ys : List Nat) (w : World) (h : Sl TN w X nx cx (xs.map I64)) (h' : Sl TN w Y ny cy (ys.map I64)) (hdx : Dg BT xs) (hdy : Dg BT ys)
    (hbig : nx ≤ 800000000000) (hbig' : ny ≤ 800000000000) :
    Calls Try.prog 105 #[.slice X nx cx, .slice Y ny cy] w (Ret (DV (val BT xs + val BT ys)) w) := by
  have hc := h.cap
  have hc' := h'.cap
  have hn := h.le
  have hn' := h'.le
  have hl := h.len
  have hl' := h'.len
  rw [List.length_map] at hl hl'
  have HL := Lib.hid hl
  have HL' := Lib.hid hl'
  have HH := Lib.hid h
  have HH' := Lib.hid h'
  have HX := Lib.hid hdx
  have HY := Lib.hid hdy
  obtain ⟨mx, hmx⟩ : ∃ mx, max nx ny = mx := ⟨_, rfl⟩
  have hm1 : nx ≤ mx := by omega
  have hm2 : ny ≤ mx := by omega
  have hm3 : mx ≤ 800000000000 := by omega
  have HMX := Lib.hid hmx
  clear h hdx hl h' hdy hl' hmx
  go_enter Try.func105, Try.ntmps105
  go_wp2
  go_loopw [5, 6, 7] (fun out cy i wr => ∃ (k c : Nat) (cs : List Nat), k + c ≤ mx + 1 ∧ c ≤ 1 ∧ i = .int .i64 k ∧ cy = .int .i64 c ∧ cs.length = k ∧ Dg BT cs ∧ val BT cs + BT ^ k * c = val BT (xs.take k) + val BT (ys.take k) ∧ Ow w.heap.size wr out cs ∧ Below w.heap.size w wr) (fun _ cy i _ => 2 * (mx - (intOf i).toNat) + (intOf cy).toNat)
  case atStart => exact ⟨0, 0, [], by omega, by omega, rfl, rfl, rfl, Dg.nil _, by simp [val], Ow.empty _ _ (Nat.le_refl _), by go_grown⟩
  case round =>
    obtain ⟨k, cr, cs, hk, hcr, rfl, rfl, hcl, hcd, hv, hown, hbw⟩ := hrel
    have HV := Lib.hid hv
    have HCL := Lib.hid hcl
    have HCD := Lib.hid hcd
    have HO := Lib.hid hown
    clear hv hcl hcd hown
    have hd1 := HX.out.getD (by unfold BT; omega) k
    have hd2 := HY.out.getD (by unfold BT; omega) k
    rw [BT_eq] at hd1 hd2
    obtain ⟨dx, hdx⟩ : ∃ d, xs.getD k 0 = d := ⟨_, rfl⟩
    obtain ⟨dy, hdy⟩ : ∃ d, ys.getD k 0 = d := ⟨_, rfl⟩
    rw [hdx] at hd1
    rw [hdy] at hd2
    have HDX := Lib.hid hdx
    have HDY := Lib.hid hdy
    clear hdx hdy
    by_cases hkx : k < nx
    · obtain ⟨b, o, rfl, hcell⟩ := HH.out.at_int (by omega)
      have hcx : wr.cell? ⟨b, o + k, none⟩ = some (.int .i64 (dx : Int)) := by
        rw [hbw.cell (p := ⟨b, o + k, none⟩) (World.block_lt_of_cell? w _ (hcell k hkx)), ← HDX.out]
        exact hcell k hkx
      clear hcell
      by_cases hky : k < ny
      · obtain ⟨b', o', rfl, hcell'⟩ := HH'.out.at_int (by omega)
        have hcy : wr.cell? ⟨b', o' + k, none⟩ = some (.int .i64 (dy : Int)) := by
          rw [hbw.cell (p := ⟨b', o' + k, none⟩) (World.block_lt_of_cell? w _ (hcell' k hky)), ← HDY.out]
          exact hcell' k hky
        clear hcell'
        go_wp2_with (at_builtin; refine wp_app1 rfl _ _ rfl w.heap.size _ cs rfl HO.out _ ((dx + dy + cr) % 10000) (by (try rw [HX0.out]); (try rw [HY0.out]); exact i64e (by omega)) rfl (by rw [HCL.out]; omega) hbw.size ?_; intro v' w1 hown1 hb1)
        have HO1 := Lib.hid hown1
        have HB1 := Lib.hid hb1
        clear hown1 hb1
        go_roundw
        case rel =>
          refine ⟨k + 1, (dx + dy + cr) / 10000, cs ++ [(dx + dy + cr) % 10000], by (first | (have q1 := HX0.out; have q2 := HY0.out; omega) | omega), by omega, by go_num, ?_, by simp [HCL.out], HCD.out.append (Dg.one (by rw [BT_eq]; omega)), ?_, HO1.out, hbw.trans HB1.out⟩
          · (try rw [HX0.out]); (try rw [HY0.out]); exact i64e (by omega)
          · rw [app_val BT k _ _ cs HCL.out, val_take_succ' BT xs, val_take_succ' BT ys, HDX.out, HDY.out]
            exact plus_step BT k cr dx dy _ _ _ _ _ HV.out (by rw [BT_eq]; omega)
        case measure => simp [intOf]; omega
      · have HY0 := Lib.hid (show dy = 0 by rw [← HDY.out, List.getD_eq_getElem?_getD, List.getElem?_eq_none (by rw [HL'.out]; omega)]; rfl)
        go_wp2_with (at_builtin; refine wp_app1 rfl _ _ rfl w.heap.size _ cs rfl HO.out _ ((dx + dy + cr) % 10000) (by (try rw [HX0.out]); (try rw [HY0.out]); exact i64e (by omega)) rfl (by rw [HCL.out]; omega) hbw.size ?_; intro v' w1 hown1 hb1)
        have HO1 := Lib.hid hown1
        have HB1 := Lib.hid hb1
        clear hown1 hb1
        go_roundw
        case rel =>
          refine ⟨k + 1, (dx + dy + cr) / 10000, cs ++ [(dx + dy + cr) % 10000], by (first | (have q1 := HX0.out; have q2 := HY0.out; omega) | omega), by omega, by go_num, ?_, by simp [HCL.out], HCD.out.append (Dg.one (by rw [BT_eq]; omega)), ?_, HO1.out, hbw.trans HB1.out⟩
          · (try rw [HX0.out]); (try rw [HY0.out]); exact i64e (by omega)
          · rw [app_val BT k _ _ cs HCL.out, val_take_succ' BT xs, val_take_succ' BT ys, HDX.out, HDY.out]
            exact plus_step BT k cr dx dy _ _ _ _ _ HV.out (by rw [BT_eq]; omega)
        case measure => simp [intOf]; omega
    · by_cases hky : k < ny
      · have HX0 := Lib.hid (show dx = 0 by rw [← HDX.out, List.getD_eq_getElem?_getD, List.getElem?_eq_none (by rw [HL.out]; omega)]; rfl)
        obtain ⟨b', o', rfl, hcell'⟩ := HH'.out.at_int (by omega)
        have hcy : wr.cell? ⟨b', o' + k, none⟩ = some (.int .i64 (dy : Int)) := by
          rw [hbw.cell (p := ⟨b', o' + k, none⟩) (World.block_lt_of_cell? w _ (hcell' k hky)), ← HDY.out]
          exact hcell' k hky
        clear hcell'
        go_wp2_with (at_builtin; refine wp_app1 rfl _ _ rfl w.heap.size _ cs rfl HO.out _ ((dx + dy + cr) % 10000) (by (try rw [HX0.out]); (try rw [HY0.out]); exact i64e (by omega)) rfl (by rw [HCL.out]; omega) hbw.size ?_; intro v' w1 hown1 hb1)
        have HO1 := Lib.hid hown1
        have HB1 := Lib.hid hb1
        clear hown1 hb1
        go_roundw
        case rel =>
          refine ⟨k + 1, (dx + dy + cr) / 10000, cs ++ [(dx + dy + cr) % 10000], by (first | (have q1 := HX0.out; have q2 := HY0.out; omega) | omega), by omega, by go_num, ?_, by simp [HCL.out], HCD.out.append (Dg.one (by rw [BT_eq]; omega)), ?_, HO1.out, hbw.trans HB1.out⟩
          · (try rw [HX0.out]); (try rw [HY0.out]); exact i64e (by omega)
          · rw [app_val BT k _ _ cs HCL.out, val_take_succ' BT xs, val_take_succ' BT ys, HDX.out, HDY.out]
            exact plus_step BT k cr dx dy _ _ _ _ _ HV.out (by rw [BT_eq]; omega)
        case measure => simp [intOf]; omega
      · have HX0 := Lib.hid (show dx = 0 by rw [← HDX.out, List.getD_eq_getElem?_getD, List.getElem?_eq_none (by rw [HL.out]; omega)]; rfl)
        have HY0 := Lib.hid (show dy = 0 by rw [← HDY.out, List.getD_eq_getElem?_getD, List.getElem?_eq_none (by rw [HL'.out]; omega)]; rfl)
        by_cases hc0 : cr = 1
        · subst hc0
          go_wp2_with (at_builtin; refine wp_app1 rfl _ _ rfl w.heap.size _ cs rfl HO.out _ ((dx + dy + 1) % 10000) (by (try rw [HX0.out]); (try rw [HY0.out]); exact i64e (by omega)) rfl (by rw [HCL.out]; omega) hbw.size ?_; intro v' w1 hown1 hb1)
          have HO1 := Lib.hid hown1
          have HB1 := Lib.hid hb1
          clear hown1 hb1
          go_roundw
          case rel =>
            refine ⟨k + 1, (dx + dy + 1) / 10000, cs ++ [(dx + dy + 1) % 10000], by (first | (have q1 := HX0.out; have q2 := HY0.out; omega) | omega), by omega, by go_num, ?_, by simp [HCL.out], HCD.out.append (Dg.one (by rw [BT_eq]; omega)), ?_, HO1.out, hbw.trans HB1.out⟩
            · (try rw [HX0.out]); (try rw [HY0.out]); exact i64e (by omega)
            · rw [app_val BT k _ _ cs HCL.out, val_take_succ' BT xs, val_take_succ' BT ys, HDX.out, HDY.out]
              exact plus_step BT k 1 dx dy _ _ _ _ _ HV.out (by rw [BT_eq]; omega)
          case measure => simp [intOf]; omega
        · have : cr = 0 := by omega
          subst this
          clear hc0
          go_wp2
          go_returns
          refine ⟨_, rfl, ⟨cs, HO.out.sl, HCD.out, ?_, by rw [HCL.out]; omega⟩, hbw⟩
          have hv := HV.out
          rw [List.take_of_length_le (by rw [HL.out]; omega), List.take_of_length_le (by rw [HL'.out]; omega)] at hv
          simpa using hv
theorem less_step (B k br br' dx dy s vx vy vc : Nat) (h : vc + vy = vx + B ^ k * br) (hs : s + dy + br = dx + B * br') :
    vc + B ^ k * s + (vy + B ^ k * dy) = vx + B ^ k * dx + B ^ (k + 1) * br' := by
  have h1 : B ^ k * (s + dy + br) = B ^ k * (dx + B * br') := by rw [hs]
  have e : B ^ (k + 1) * br' = B ^ k * (B * br') := by rw [Nat.pow_succ, Nat.mul_assoc]
  rw [Nat.mul_add, Nat.mul_add, Nat.mul_add] at h1
  rw [e]
  omega
set_option maxHeartbeats 3200000 in
set_option maxRecDepth 100000 in
theorem zless_any (X Y : Option Addr) (nx cx ny cy : Nat) (xs ys : List Nat) (w : World) (h : Sl TN w X nx cx (xs.map I64)) (h' : Sl TN w Y ny cy (ys.map I64)) (hdx : Dg BT xs) (hdy : Dg BT ys)
    (hle : ny ≤ nx) (hv : val BT ys ≤ val BT xs) (hbig : nx ≤ 800000000000) :
    Calls Try.prog 107 #[.slice X nx cx, .slice Y ny cy] w (Ret (DV (val BT xs - val BT ys)) w) := by
  have hc := h.cap
  have hc' := h'.cap
  have hn := h.le
  have hn' := h'.le
  have hl := h.len
  have hl' := h'.len
  rw [List.length_map] at hl hl'
  have HL := Lib.hid hl
  have HL' := Lib.hid hl'
  have HH := Lib.hid h
  have HH' := Lib.hid h'
  have HX := Lib.hid hdx
  have HY := Lib.hid hdy
  have HLE := Lib.hid hv
  clear h hdx hl h' hdy hl' hv
  go_enter Try.func107, Try.ntmps107
  go_wp2
  go_loopw [5, 6, 7] (fun out bw i wr => ∃ (k b : Nat) (cs : List Nat), k ≤ nx ∧ b ≤ 1 ∧ i = .int .i64 k ∧ bw = .int .i64 b ∧ cs.length = k ∧ Dg BT cs ∧ val BT cs + val BT (ys.take k) = val BT (xs.take k) + BT ^ k * b ∧ Ow w.heap.size wr out cs ∧ Below w.heap.size w wr) (fun _ _ i _ => nx - (intOf i).toNat)
  case atStart => exact ⟨0, 0, [], by omega, by omega, rfl, rfl, rfl, Dg.nil _, by simp [val], Ow.empty _ _ (Nat.le_refl _), by go_grown⟩
  case round =>
    obtain ⟨k, br, cs, hk, hbr, rfl, rfl, hcl, hcd, hv, hown, hbw⟩ := hrel
    have HV := Lib.hid hv
    have HCL := Lib.hid hcl
    have HCD := Lib.hid hcd
    have HO := Lib.hid hown
    clear hv hcl hcd hown
    by_cases hkx : k < nx
    · have hd1 := HX.out.getD (by unfold BT; omega) k
      have hd2 := HY.out.getD (by unfold BT; omega) k
      rw [BT_eq] at hd1 hd2
      obtain ⟨dx, hdx⟩ : ∃ d, xs.getD k 0 = d := ⟨_, rfl⟩
      obtain ⟨dy, hdy⟩ : ∃ d, ys.getD k 0 = d := ⟨_, rfl⟩
      rw [hdx] at hd1
      rw [hdy] at hd2
      have HDX := Lib.hid hdx
      have HDY := Lib.hid hdy
      clear hdx hdy
      obtain ⟨b, o, rfl, hcell⟩ := HH.out.at_int (by omega)
      have hcx : wr.cell? ⟨b, o + k, none⟩ = some (.int .i64 (dx : Int)) := by
        rw [hbw.cell (p := ⟨b, o + k, none⟩) (World.block_lt_of_cell? w _ (hcell k hkx)), ← HDX.out]
        exact hcell k hkx
      clear hcell
      by_cases hky : k < ny
      · obtain ⟨b', o', rfl, hcell'⟩ := HH'.out.at_int (by omega)
        have hcy : wr.cell? ⟨b', o' + k, none⟩ = some (.int .i64 (dy : Int)) := by
          rw [hbw.cell (p := ⟨b', o' + k, none⟩) (World.block_lt_of_cell? w _ (hcell' k hky)), ← HDY.out]
          exact hcell' k hky
        clear hcell'
        by_cases hs : (dx : Int) - br - dy < 0
        · go_wp2_with (at_builtin; refine wp_app1 rfl _ _ rfl w.heap.size _ cs rfl HO.out _ (dx + 10000 - br - dy) (by (try rw [HY0.out]); exact i64e (by omega)) rfl (by rw [HCL.out]; omega) hbw.size ?_; intro v' w1 hown1 hb1)
          have HO1 := Lib.hid hown1
          have HB1 := Lib.hid hb1
          clear hown1 hb1
          go_roundw
          case rel =>
            refine ⟨k + 1, 1, cs ++ [dx + 10000 - br - dy], by omega, by omega, by go_num, rfl, by simp [HCL.out], HCD.out.append (Dg.one (by rw [BT_eq]; omega)), ?_, HO1.out, hbw.trans HB1.out⟩
            have h1 := less_step BT k br 1 dx dy (dx + 10000 - br - dy) _ _ _ HV.out (by rw [BT_eq]; (try have q := HY0.out); omega)
            rw [val_append, HCL.out, val_take_succ' BT xs, val_take_succ' BT ys, HDX.out, HDY.out]
            simpa [val] using h1
          case measure => simp [intOf]; omega
        · go_wp2_with (at_builtin; refine wp_app1 rfl _ _ rfl w.heap.size _ cs rfl HO.out _ (dx - br - dy) (by (try rw [HY0.out]); exact i64e (by omega)) rfl (by rw [HCL.out]; omega) hbw.size ?_; intro v' w1 hown1 hb1)
          have HO1 := Lib.hid hown1
          have HB1 := Lib.hid hb1
          clear hown1 hb1
          go_roundw
          case rel =>
            refine ⟨k + 1, 0, cs ++ [dx - br - dy], by omega, by omega, by go_num, rfl, by simp [HCL.out], HCD.out.append (Dg.one (by rw [BT_eq]; omega)), ?_, HO1.out, hbw.trans HB1.out⟩
            have h1 := less_step BT k br 0 dx dy (dx - br - dy) _ _ _ HV.out (by rw [BT_eq]; (try have q := HY0.out); omega)
            rw [val_append, HCL.out, val_take_succ' BT xs, val_take_succ' BT ys, HDX.out, HDY.out]
            simpa [val] using h1
          case measure => simp [intOf]; omega
      · have hy0 : dy = 0 := by rw [← HDY.out, List.getD_eq_getElem?_getD, List.getElem?_eq_none (by rw [HL'.out]; omega)]; rfl
        have HY0 := Lib.hid hy0
        clear hy0
        by_cases hs : (dx : Int) - br < 0
        · go_wp2_with (at_builtin; refine wp_app1 rfl _ _ rfl w.heap.size _ cs rfl HO.out _ (dx + 10000 - br - dy) (by (try rw [HY0.out]); exact i64e (by omega)) rfl (by rw [HCL.out]; omega) hbw.size ?_; intro v' w1 hown1 hb1)
          have HO1 := Lib.hid hown1
          have HB1 := Lib.hid hb1
          clear hown1 hb1
          go_roundw
          case rel =>
            refine ⟨k + 1, 1, cs ++ [dx + 10000 - br - dy], by omega, by omega, by go_num, rfl, by simp [HCL.out], HCD.out.append (Dg.one (by rw [BT_eq]; omega)), ?_, HO1.out, hbw.trans HB1.out⟩
            have h1 := less_step BT k br 1 dx dy (dx + 10000 - br - dy) _ _ _ HV.out (by rw [BT_eq]; (try have q := HY0.out); omega)
            rw [val_append, HCL.out, val_take_succ' BT xs, val_take_succ' BT ys, HDX.out, HDY.out]
            simpa [val] using h1
          case measure => simp [intOf]; omega
        · go_wp2_with (at_builtin; refine wp_app1 rfl _ _ rfl w.heap.size _ cs rfl HO.out _ (dx - br - dy) (by (try rw [HY0.out]); exact i64e (by omega)) rfl (by rw [HCL.out]; omega) hbw.size ?_; intro v' w1 hown1 hb1)
          have HO1 := Lib.hid hown1
          have HB1 := Lib.hid hb1
          clear hown1 hb1
          go_roundw
          case rel =>
            refine ⟨k + 1, 0, cs ++ [dx - br - dy], by omega, by omega, by go_num, rfl, by simp [HCL.out], HCD.out.append (Dg.one (by rw [BT_eq]; omega)), ?_, HO1.out, hbw.trans HB1.out⟩
            have h1 := less_step BT k br 0 dx dy (dx - br - dy) _ _ _ HV.out (by rw [BT_eq]; (try have q := HY0.out); omega)
            rw [val_append, HCL.out, val_take_succ' BT xs, val_take_succ' BT ys, HDX.out, HDY.out]
            simpa [val] using h1
          case measure => simp [intOf]; omega
    · have : k = nx := by omega
      subst this
      clear hkx
      go_wp2
      go_returns
      have hv := HV.out
      rw [List.take_of_length_le (by rw [HL'.out]; omega), List.take_of_length_le (by rw [HL.out]; omega)] at hv
      have hlt := val_lt BT _ HCD.out
      rw [HCL.out] at hlt
      have hle := HLE.out
      refine ⟨_, rfl, ⟨cs, HO.out.sl, HCD.out, ?_, by rw [HCL.out]; omega⟩, hbw⟩
      have hb : br = 0 := by
        rcases Nat.lt_or_ge 0 br with h | h
        · have h1 : br = 1 := by omega
          rw [h1] at hv
          omega
        · omega
      rw [hb] at hv
      omega
end Go.Proofs.Tb
