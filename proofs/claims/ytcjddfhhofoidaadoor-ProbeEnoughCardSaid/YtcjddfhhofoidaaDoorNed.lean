/- The reference's Enough, Price and First; the law's rising. -/
import Derived.Test.YtcjddfhhofoidaaDoorNec
set_option linter.unusedVariables false
set_option linter.unusedSimpArgs false
namespace Go.Proofs.Tb
open Go.RowKit
attribute [local go_sem] cell_set_same

open Classical in
noncomputable def enB (n : Nat) (ts : List Tt) (ks : List Int) : Bool := decide (EnP n ts ks)
theorem enB_t {n : Nat} {ts : List Tt} {ks : List Int} (h : EnP n ts ks) : enB n ts ks = true := by unfold enB; simpa using h
theorem enB_f {n : Nat} {ts : List Tt} {ks : List Int} (h : ¬ EnP n ts ks) : enB n ts ks = false := by unfold enB; simpa using h
def gdP (ts : List Tt) (ks : List Int) (a b : Nat) : Prop := tdB ts (upL ts.length) (a : Int) (b : Int) = true → tdB ts ks (a : Int) (b : Int) = true
set_option maxHeartbeats 3200000 in
set_option maxRecDepth 100000 in
theorem zenough_any (A A' A3 : Option Addr) (n c m d q d3 : Nat) (ws : List Int) (ts : List Tt) (ks : List Int) (w : World) (h : Il w A n c ws) (h' : Ts w A' m d ts) (h3 : Il w A3 q d3 ks) (hk : ∀ j, j < q → 0 ≤ ks.getD j 0 ∧ ks.getD j 0 < (m : Int)) (hm0 : m ≤ 1000000) :
    Calls Tryd.prog 39 #[.slice A n c, .slice A' m d, .slice A3 q d3] w (Ret (fun v _ => v = .bool (enB n ts ks)) w) := by
  have hn := h.le
  have hc := h.cap
  have hm := h'.le
  have hd := h'.cap
  have HL' := Lib.hid h'.len
  have H := Lib.hid h
  have H' := Lib.hid h'
  have H3 := Lib.hid h3
  have HK := Lib.hid hk
  clear h h' h3 hk
  go_enter Tryd.func39, Tryd.ntmps39
  go_wp2_with fail
  refine (znumbers_any A' m d ts w H'.out hm0).mono ?_
  rintro e w1 ⟨v1, rfl, ho1, hb1⟩
  have IA := Lib.hid (show ∃ A1 n1 c1, v1 = .slice A1 n1 c1 ∧ Il w1 A1 n1 c1 (upL m) by
    obtain ⟨A1, n1, c1, e, _⟩ := ho1.il3
    subst e
    exact ⟨_, _, _, rfl, ho1.ilv⟩)
  obtain ⟨A1, n1, c1, hv1, il1⟩ := IA.out
  subst hv1
  have I1 := Lib.hid il1
  have HQ := Lib.hid (fun (j : Nat) (hj : j < n1) => show 0 ≤ (upL m).getD j 0 ∧ (upL m).getD j 0 < (m : Int) from upL_mem'.1 (getD_mem' (by rw [il1.len]; exact hj)))
  have HB1 := Lib.hid (show Ext w w1 from hb1)
  clear ho1 hb1 il1 IA
  go_wp2_with fail
  go_loopw [8] (fun i wr => ∃ a : Nat, a ≤ n ∧ i = .int .i64 (a : Int) ∧ (∀ x y : Nat, x < a → y < x → gdP ts ks x y) ∧ Ext w1 wr) (fun i _ => n - (intOf i).toNat)
  case atStart => exact ⟨0, by omega, rfl, fun x y hx => absurd hx (by omega), Ext.refl _⟩
  case round =>
    obtain ⟨a, ha, rfl, hr, hx⟩ := hrel
    have HR := Lib.hid hr
    have HX := Lib.hid hx
    clear hr hx
    by_cases han : a < n
    · have pa : (a : Int) < (n : Int) := by omega
      obtain ⟨wo, rfl⟩ : ∃ wo, wo = wr := ⟨_, rfl⟩
      go_wp2_with fail
      go_loopw [9] (fun i wr => ∃ b : Nat, b ≤ a ∧ i = .int .i64 (b : Int) ∧ (∀ y : Nat, y < b → gdP ts ks a y) ∧ Ext w1 wr) (fun i _ => a - (intOf i).toNat)
      case atStart => exact ⟨0, by omega, rfl, fun y hy => absurd hy (by omega), HX.out⟩
      case round =>
        clear HX
        obtain ⟨b, hb, rfl, hr2, hx⟩ := hrel
        have HR2 := Lib.hid hr2
        have HX := Lib.hid hx
        clear hr2 hx
        by_cases hba : b < a
        · have pb : (b : Int) < (a : Int) := by omega
          go_wp2_with fail
          refine (ztold_any A' A1 m d n1 c1 ts (upL m) (a : Int) (b : Int) wr (H'.out.below (bt HB1.out HX.out)) (I1.out.below HX.out) HQ.out).mono ?_
          rintro e w3 ⟨v3, rfl, rfl, hb3⟩
          have X3 := Lib.hid (bt HX.out hb3)
          clear hb3
          cases ht1 : tdB ts (upL m) (a : Int) (b : Int) with
          | false =>
            have HN := Lib.hid (show ∀ y : Nat, y < b + 1 → gdP ts ks a y from fun y hy => by
              rcases Nat.lt_or_eq_of_le (Nat.le_of_lt_succ hy) with h | rfl
              · exact HR2.out y h
              · intro h; rw [HL'.out, ht1] at h; cases h)
            clear ht1
            go_wp2
            go_roundw
            case rel => exact ⟨b + 1, by omega, by go_num, HN.out, X3.out⟩
            case measure => simp [intOf]; omega
          | true =>
            have HT1 := Lib.hid ht1
            clear ht1
            go_wp2_with fail
            refine (ztold_any A' A3 m d q d3 ts ks (a : Int) (b : Int) w3 (H'.out.below (bt HB1.out X3.out)) (H3.out.below (bt HB1.out X3.out)) HK.out).mono ?_
            rintro e w4 ⟨v4, rfl, rfl, hb4⟩
            have X4 := Lib.hid (bt X3.out hb4)
            clear hb4
            cases ht2 : tdB ts ks (a : Int) (b : Int) with
            | true =>
              have HN := Lib.hid (show ∀ y : Nat, y < b + 1 → gdP ts ks a y from fun y hy => by
                rcases Nat.lt_or_eq_of_le (Nat.le_of_lt_succ hy) with h | rfl
                · exact HR2.out y h
                · exact fun _ => ht2)
              clear ht2
              go_wp2
              go_roundw
              case rel => exact ⟨b + 1, by omega, by go_num, HN.out, X4.out⟩
              case measure => simp [intOf]; omega
            | false =>
              have HN := Lib.hid (enB_f (n := n) (ts := ts) (ks := ks) (fun h => by
                have := h a b han hba (by rw [HL'.out]; exact HT1.out)
                rw [ht2] at this
                cases this))
              clear ht2
              go_wp2
              go_returns
              exact ⟨_, rfl, by rw [HN.out]; rfl, bt HB1.out X4.out⟩
        · obtain rfl : b = a := by omega
          have HN := Lib.hid (show ∀ x y : Nat, x < b + 1 → y < x → gdP ts ks x y from fun x y hx hy => by
            rcases Nat.lt_or_eq_of_le (Nat.le_of_lt_succ hx) with h | rfl
            · exact HR.out x y h hy
            · exact HR2.out y hy)
          go_wp2
          go_roundw
          case rel => exact ⟨b + 1, by omega, by go_num, HN.out, HX.out⟩
          case measure => simp [intOf]; omega
    · obtain rfl : a = n := by omega
      have HN := Lib.hid (enB_t (n := a) (ts := ts) (ks := ks) (fun x y hx hy => HR.out x y hx hy))
      go_wp2
      go_returns
      exact ⟨_, rfl, by rw [HN.out]; rfl, bt HB1.out HX.out⟩
set_option maxHeartbeats 1600000 in
theorem zprice_any (A A3 : Option Addr) (m d q d3 : Nat) (ts : List Tt) (ks : List Int) (w : World) (h' : Ts w A m d ts) (h3 : Il w A3 q d3 ks) (hk : ∀ j, j < q → 0 ≤ ks.getD j 0 ∧ ks.getD j 0 < (m : Int)) (ht : ∀ j, 0 ≤ tC ts j ∧ tC ts j ≤ 1000) (hq : q ≤ 1000) :
    Calls Tryd.prog 64 #[.slice A m d, .slice A3 q d3] w (Ret (fun v _ => v = .int .i64 (csW ts ks)) w) := by
  have hm := h'.le
  have hd := h'.cap
  have hq3 := h3.le
  have hd3 := h3.cap
  have HL3 := Lib.hid h3.len
  have H' := Lib.hid h'
  have H3 := Lib.hid h3
  have HK := Lib.hid hk
  have HT := Lib.hid ht
  clear h' h3 hk ht
  go_enter Tryd.func64, Tryd.ntmps64
  go_wp2_with fail
  go_loopw [5, 6] (fun s i wr => ∃ k : Nat, k ≤ q ∧ i = .int .i64 (k : Int) ∧ s = .int .i64 (csW ts (ks.take k)) ∧ Ext w wr) (fun _ i _ => q - (intOf i).toNat)
  case atStart => exact ⟨0, by omega, rfl, rfl, Ext.refl _⟩
  case round =>
    obtain ⟨k, hk, rfl, rfl, hx⟩ := hrel
    have HX := Lib.hid hx
    by_cases hkq : k < q
    · have pk : (k : Int) < (q : Int) := by omega
      obtain ⟨b, o, rfl, hcell⟩ := (H3.out.below hx).at_ (by omega)
      have ck := hcell k hkq
      have hr := HK.out k hkq
      obtain ⟨y, hy⟩ : ∃ y : Nat, ks.getD k 0 = (y : Int) := ⟨(ks.getD k 0).toNat, by omega⟩
      rw [hy] at ck hr
      have pym : (y : Int) < (m : Int) := hr.2
      have hym : y < m := by omega
      obtain ⟨bT, oT, rfl, hcT⟩ := (H'.out.below hx).at_ (by omega)
      obtain ⟨ckT, _⟩ := hcT y hym
      obtain ⟨x, hxx⟩ : ∃ x, tC ts y = x := ⟨_, rfl⟩
      rw [hxx] at ckT
      have hst := csW_take (ts := ts) (way := ks) (j := k) (by rw [HL3.out]; exact hkq)
      rw [hy, Int.toNat_natCast, hxx] at hst
      have hb1 := csW_bd (ts := ts) (l := ks.take k) HT.out
      have hb2 := csW_bd (ts := ts) (l := ks.take (k + 1)) HT.out
      rw [List.length_take] at hb1 hb2
      rw [hst] at hb2
      obtain ⟨F, hF⟩ : ∃ F, csW ts (ks.take k) = F := ⟨_, rfl⟩
      rw [hF] at hb1 hb2 hst ⊢
      have wq : IntKind.i64.wrap (F + x) = F + x := IntWalk.i64_in _ (by omega)
      have HS := Lib.hid hst
      clear hcell hcT hy hr hxx hst hb1 hb2 hF hx
      go_wp2
      go_roundw
      case rel => exact ⟨k + 1, by omega, by go_num, by rw [HS.out], HX.out⟩
      case measure => simp [intOf]; omega
    · obtain rfl : k = q := by omega
      rw [show ks.take k = ks from List.take_of_length_le (by rw [HL3.out]; exact Nat.le_refl _)]
      clear hx
      go_wp2
      go_returns
      exact ⟨_, rfl, rfl, HX.out⟩
set_option maxHeartbeats 3200000 in
set_option maxRecDepth 100000 in
theorem zfirst_any (A A2 A3 : Option Addr) (m d p d2 q d3 : Nat) (ts : List Tt) (xs ys : List Int) (w : World) (h' : Ts w A m d ts) (h2 : Il w A2 p d2 xs) (h3 : Il w A3 q d3 ys) (hx : ∀ j, j < p → 0 ≤ xs.getD j 0 ∧ xs.getD j 0 < (m : Int))
    (hy : ∀ j, j < q → 0 ≤ ys.getD j 0 ∧ ys.getD j 0 < (m : Int)) (ht : ∀ j, 0 ≤ tC ts j ∧ tC ts j ≤ 1000) (hp : p ≤ 1000) (hq : q ≤ 1000) :
    Calls Tryd.prog 40 #[.slice A m d, .slice A2 p d2, .slice A3 q d3] w (Ret (fun v _ => v = .bool (ltB (ky ts xs) (ky ts ys))) w) := by
  have hd2 := h2.le
  have hd2' := h2.cap
  have hd3 := h3.le
  have hd3' := h3.cap
  have HL2 := Lib.hid h2.len
  have HL3 := Lib.hid h3.len
  have H' := Lib.hid h'
  have H2 := Lib.hid h2
  have H3 := Lib.hid h3
  have HX := Lib.hid hx
  have HY := Lib.hid hy
  have HT := Lib.hid ht
  have hky : ltB (ky ts xs) (ky ts ys) = (decide (csW ts xs < csW ts ys) || (decide (csW ts xs = csW ts ys) && (decide ((p : Int) < (q : Int)) || (decide ((p : Int) = (q : Int)) && ltB xs ys)))) := by
    unfold ky
    rw [ltB, ltB, h2.len, h3.len]
  obtain ⟨X1, hX1⟩ : ∃ X, csW ts xs = X := ⟨_, rfl⟩
  obtain ⟨X2, hX2⟩ : ∃ X, csW ts ys = X := ⟨_, rfl⟩
  rw [hX1, hX2] at hky
  have HKY := Lib.hid hky
  have HX1 := Lib.hid hX1
  have HX2 := Lib.hid hX2
  clear h' h2 h3 hx hy ht hky hX1 hX2
  go_enter Tryd.func40, Tryd.ntmps40
  go_wp2_with fail
  refine (zprice_any A A2 m d p d2 ts xs w H'.out H2.out HX.out HT.out hp).mono ?_
  rintro e w1 ⟨v1, rfl, rfl, hb1⟩
  rw [HX1.out]
  have B1 := Lib.hid (show Ext w w1 from hb1)
  clear hb1
  go_wp2_with fail
  refine (zprice_any A A3 m d q d3 ts ys w1 (H'.out.below B1.out) (H3.out.below B1.out) HY.out HT.out hq).mono ?_
  rintro e w2 ⟨v2, rfl, rfl, hb2⟩
  rw [HX2.out]
  have B2 := Lib.hid (bt B1.out hb2)
  clear hb2
  by_cases hne : X1 = X2
  rotate_left
  · have g2 : (X1 != X2) = true := by simpa using hne
    go_wp2_with fail
    refine (zprice_any A A2 m d p d2 ts xs w2 (H'.out.below B2.out) (H2.out.below B2.out) HX.out HT.out hp).mono ?_
    rintro e w3 ⟨v3, rfl, rfl, hb3⟩
    rw [HX1.out]
    have B3 := Lib.hid (bt B2.out hb3)
    clear hb3
    go_wp2_with fail
    refine (zprice_any A A3 m d q d3 ts ys w3 (H'.out.below B3.out) (H3.out.below B3.out) HY.out HT.out hq).mono ?_
    rintro e w4 ⟨v4, rfl, rfl, hb4⟩
    rw [HX2.out]
    have B4 := Lib.hid (bt B3.out hb4)
    have HN := Lib.hid (show ltB (ky ts xs) (ky ts ys) = decide (X1 < X2) by rw [HKY.out, decide_eq_false hne]; simp)
    clear hb4
    go_wp2
    go_returns
    exact ⟨_, rfl, by rw [HN.out]; rfl, B4.out⟩
  · subst hne
    have g2 : (X1 != X1) = false := by simp
    have HK2 := Lib.hid (show ltB (ky ts xs) (ky ts ys) = (decide ((p : Int) < (q : Int)) || (decide ((p : Int) = (q : Int)) && ltB xs ys)) by rw [HKY.out]; simp)
    by_cases hpq : (p : Int) = (q : Int)
    rotate_left
    · have g3 : ((p : Int) != (q : Int)) = true := by simpa using hpq
      have HN := Lib.hid (show ltB (ky ts xs) (ky ts ys) = decide ((p : Int) < (q : Int)) by rw [HK2.out, decide_eq_false hpq]; simp)
      by_cases hlt : (p : Int) < (q : Int)
      · have g4 : decide ((p : Int) < (q : Int)) = true := by simpa using hlt
        rw [g4] at HN
        go_wp2
        go_returns
        exact ⟨_, rfl, by rw [HN.out]; rfl, B2.out⟩
      · have g4 : decide ((p : Int) < (q : Int)) = false := decide_eq_false hlt
        have g5 : decide (p < q) = false := by simp; omega
        rw [g4] at HN
        go_wp2
        go_returns
        exact ⟨_, rfl, by rw [HN.out]; rfl, B2.out⟩
    · obtain rfl : p = q := by omega
      have g3 : ((p : Int) != (p : Int)) = false := by simp
      have HN := Lib.hid (show ltB (ky ts xs) (ky ts ys) = ltB (xs.drop 0) (ys.drop 0) by rw [HK2.out]; simp)
      clear hpq
      go_wp2_with fail
      go_loopw [7] (fun i wr => ∃ k : Nat, k ≤ p ∧ i = .int .i64 (k : Int) ∧ ltB (ky ts xs) (ky ts ys) = ltB (xs.drop k) (ys.drop k) ∧ Ext w wr) (fun i _ => p - (intOf i).toNat)
      case atStart => exact ⟨0, by omega, rfl, HN.out, B2.out⟩
      case round =>
        clear HN
        obtain ⟨k, hk, rfl, hr, hx⟩ := hrel
        have HXX := Lib.hid hx
        by_cases hkp : k < p
        · have pk : (k : Int) < (p : Int) := by omega
          obtain ⟨b, o, rfl, hcell⟩ := (H2.out.below hx).at_ (by omega)
          have ck := hcell k hkp
          obtain ⟨b', o', rfl, hcell'⟩ := (H3.out.below hx).at_ (by omega)
          have ck' := hcell' k hkp
          rw [drop_get (xs := xs) (by rw [HL2.out]; exact hkp), drop_get (xs := ys) (by rw [HL3.out]; exact hkp)] at hr
          obtain ⟨x, hxx⟩ : ∃ y, xs.getD k 0 = y := ⟨_, rfl⟩
          obtain ⟨y, hyy⟩ : ∃ y, ys.getD k 0 = y := ⟨_, rfl⟩
          rw [hxx] at ck hr
          rw [hyy] at ck' hr
          rw [ltB] at hr
          have HR := Lib.hid hr
          clear hcell hcell' hxx hyy hr hx
          by_cases hxy : x = y
          · subst hxy
            have g4 : (x != x) = false := by simp
            have HN := Lib.hid (show ltB (ky ts xs) (ky ts ys) = ltB (xs.drop (k + 1)) (ys.drop (k + 1)) by rw [HR.out]; simp)
            go_upto_region 8 with fail
            go_quiet (fail)
            go_wp2
            go_roundw
            case rel => exact ⟨k + 1, by omega, by go_num, HN.out, below_drewN HXX.out _⟩
            case measure => simp [intOf]; omega
          · have g4 : (x != y) = true := by simpa using hxy
            have HN := Lib.hid (show ltB (ky ts xs) (ky ts ys) = decide (x < y) by rw [HR.out, decide_eq_false hxy]; simp)
            go_upto_region 8 with fail
            go_quiet (fail)
            go_upto_region 9 with fail
            go_quiet (fail)
            go_wp2
            go_returns
            exact ⟨_, rfl, by rw [HN.out]; rfl, below_drewN (below_drewN HXX.out _) _⟩
        · obtain rfl : k = p := by omega
          rw [show ys.drop k = [] from List.drop_of_length_le (by rw [HL3.out]; exact Nat.le_refl _), ltB_nil] at hr
          have HN := Lib.hid hr
          clear hr hx
          go_wp2
          go_returns
          exact ⟨_, rfl, by rw [HN.out]; rfl, HXX.out⟩
set_option maxHeartbeats 1600000 in
set_option maxRecDepth 100000 in
theorem lrising_any (A : Option Addr) (n c : Nat) (xs : List Int) (lim : Int) (w : World) (h : Il w A n c xs) : Calls Tryd.prog 38 #[.slice A n c, .int .i64 lim] w (Ret (fun v _ => v = .bool (ris xs lim)) w) := by
  have hn := h.le
  have hc := h.cap
  have HL := Lib.hid h.len
  have H := Lib.hid h
  clear h
  go_enter Tryd.func38, Tryd.ntmps38
  go_wp2_with fail
  go_loopw [5] (fun i wr => ∃ k : Nat, k ≤ n ∧ i = .int .i64 (k : Int) ∧ RisK xs lim k ∧ Ext w wr) (fun i _ => n - (intOf i).toNat)
  case atStart => exact ⟨0, by omega, rfl, fun j hj => absurd hj (by omega), Ext.refl _⟩
  case round =>
    obtain ⟨k, hk, rfl, hr, hx⟩ := hrel
    have HX := Lib.hid hx
    have HB := Lib.hid (fun w' (hh : Ext wr w') => bt hx hh)
    by_cases hkn : k < n
    · have pk : (k : Int) < (n : Int) := by omega
      obtain ⟨b, o, rfl, hcell⟩ := (H.out.below hx).at_ (by omega)
      have ck := hcell k hkn
      obtain ⟨x, hxx⟩ : ∃ y, xs.getD k 0 = y := ⟨_, rfl⟩
      rw [hxx] at ck
      have hge := hr.ge
      by_cases h1 : x < 0
      · have g1 : decide (x < 0) = true := by simpa using h1
        have HN := Lib.hid (ris_f (xs := xs) (lim := lim) (fun h => by
          have h2 := h.bd k (by rw [HL.out]; exact hkn)
          omega))
        clear hr hx hcell hxx hge
        go_upto_region 4 with fail
        go_quiet (fail)
        go_wp2
        go_returns
        exact ⟨_, rfl, by rw [HN.out]; rfl, below_drewN HX.out _⟩
      · have g1 : decide (x < 0) = false := decide_eq_false h1
        have g1' : 0 ≤ x := by omega
        by_cases h2 : lim ≤ x
        · have g2 : decide (lim ≤ x) = true := by simpa using h2
          have HN := Lib.hid (ris_f (xs := xs) (lim := lim) (fun h => by
            have h2 := h.bd k (by rw [HL.out]; exact hkn)
            omega))
          clear hr hx hcell hxx hge
          go_upto_region 4 with fail
          go_quiet (fail)
          go_wp2
          go_returns
          exact ⟨_, rfl, by rw [HN.out]; rfl, below_drewN HX.out _⟩
        · have g2 : decide (lim ≤ x) = false := decide_eq_false h2
          have g2' : x < lim := by omega
          by_cases h3 : k = 0
          · subst h3
            have HN := Lib.hid (RisK.succ hr (by rw [prv_zero, hxx]; omega) (by rw [hxx]; omega))
            rw [Nat.add_zero] at ck
            clear hr hx hcell hxx hge
            go_upto_region 4 with fail
            go_quiet (fail)
            go_wp2
            go_roundw
            case rel => exact ⟨0 + 1, by omega, by go_num, HN.out, below_drewN HX.out _⟩
            case measure => simp [intOf]; omega
          · obtain ⟨k0, rfl⟩ : ∃ k0, k = k0 + 1 := ⟨k - 1, by omega⟩
            have g3 : decide ((0 : Int) < ((k0 + 1 : Nat) : Int)) = true := decide_eq_true (by omega)
            have g3' : (0 : Int) < ((k0 + 1 : Nat) : Int) := by omega
            have ck0 := hcell k0 (by omega)
            obtain ⟨y, hyy⟩ : ∃ y, xs.getD k0 0 = y := ⟨_, rfl⟩
            rw [hyy] at ck0
            have pk0 : (k0 : Int) < (n : Int) := by omega
            have wq : IntKind.i64.wrap (((k0 + 1 : Nat) : Int) - 1) = (k0 : Int) := by rw [IntWalk.i64_in _ (by omega)]; omega
            by_cases h4 : x ≤ y
            · have g4 : decide (x ≤ y) = true := by simpa using h4
              have HN := Lib.hid (ris_f (xs := xs) (lim := lim) (fun h => by
                have h2 := (h (k0 + 1) (by rw [HL.out]; exact hkn)).1
                rw [prv_succ] at h2
                omega))
              clear hr hx hcell hxx hyy hge
              go_upto_region 4 with fail
              go_quiet (fail)
              go_wp2
              go_returns
              exact ⟨_, rfl, by rw [HN.out]; rfl, below_drewN HX.out _⟩
            · have g4 : decide (x ≤ y) = false := decide_eq_false h4
              have g4' : y < x := by omega
              have HN := Lib.hid (RisK.succ hr (by rw [prv_succ, hxx, hyy]; omega) (by rw [hxx]; omega))
              clear hr hx hcell hxx hyy hge
              go_upto_region 4 with fail
              go_quiet (fail)
              go_wp2
              go_roundw
              case rel => exact ⟨k0 + 1 + 1, by omega, by go_num, HN.out, below_drewN HX.out _⟩
              case measure => simp [intOf]; omega
    · obtain rfl : k = n := by omega
      have HN := Lib.hid (ris_t (xs := xs) (lim := lim) (fun j hj => hr j (by rw [← HL.out]; exact hj)))
      clear hr hx
      go_wp2
      go_returns
      exact ⟨_, rfl, by rw [HN.out]; rfl, HX.out⟩
end Go.Proofs.Tb
