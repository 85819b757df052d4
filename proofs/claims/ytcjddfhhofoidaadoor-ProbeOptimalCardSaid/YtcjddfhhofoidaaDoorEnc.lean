/- The reference's Ends and Cost. -/
import Derived.Test.YtcjddfhhofoidaaDoorEnb
import Derived.Test.YtcjddfhhofoidaaDoorCsw
set_option linter.unusedVariables false
set_option linter.unusedSimpArgs false
namespace Go.Proofs.Tb
open Go.RowKit
attribute [local go_sem] cell_set_same

/-- An end whose numbers are in range. -/
def EOk (n m : Nat) (e : En) : Prop := (∀ x ∈ e.1, 0 ≤ x ∧ x < (n : Int)) ∧ e.1.length ≤ 1000 ∧ (∀ k ∈ e.2, 0 ≤ k ∧ k < (m : Int)) ∧ e.2.length ≤ 1000
theorem rd_ok {ts : List Tt} {n : Nat} : ∀ (f : Nat) (set way : List Int) (plan r : List Tt) (es : List En), (∀ x ∈ set, 0 ≤ x ∧ x < (n : Int)) → set.length ≤ 1000 → (∀ k ∈ way, 0 ≤ k ∧ k < (ts.length : Int)) → way.length + f ≤ 1000 →
    rdF ts f set way plan = some (es, r) → ∀ e ∈ es, EOk n ts.length e := by
  intro f
  induction f with
  | zero => intro set way plan r es _ _ _ _ h; simp [rdF] at h
  | succ f ih =>
    intro set way plan r es hs hl hw hf h
    cases plan with
    | nil => rw [rdF_nil] at h; cases h
    | cons b rest =>
      unfold rdF at h
      split at h
      · split at h
        · cases h
        · split at h
          · injection h with h
            injection h with h1 h2
            subst h1
            intro e he
            simp at he
            subst he
            exact ⟨hs, hl, hw, by simp only; omega⟩
          · cases h
      · split at h
        · rename_i hc
          have hw' : ∀ k ∈ way ++ [b.1], 0 ≤ k ∧ k < (ts.length : Int) := by
            intro k hk
            rcases List.mem_append.1 hk with h | h
            · exact hw k h
            · simp at h
              subst h
              exact hc.1
          have hf' : (way ++ [b.1]).length + f ≤ 1000 := by simp; omega
          have hg : ∀ p : Int → Bool, (∀ x ∈ set.filter p, 0 ≤ x ∧ x < (n : Int)) ∧ (set.filter p).length ≤ 1000 := fun p => ⟨fun x hx => hs x (List.mem_filter.1 hx).1, Nat.le_trans (List.length_filter_le _ _) hl⟩
          split at h
          · cases h
          · rename_i e1 r1 h1
            split at h
            · cases h
            · rename_i e2 r2 h2
              injection h with h
              injection h with h3 h4
              subst h3
              intro e he
              rcases List.mem_append.1 he with he | he
              · exact ih _ _ _ _ _ (hg _).1 (hg _).2 hw' hf' h1 e he
              · exact ih _ _ _ _ _ (hg _).1 (hg _).2 hw' hf' h2 e he
        · cases h
def okR (r : Option (List En × List Tt)) : Bool := match r with
  | some (_, []) => true
  | _ => false
theorem okR_ex {r : Option (List En × List Tt)} (h : okR r = true) : ∃ es, r = some (es, []) := by
  unfold okR at h
  split at h
  · exact ⟨_, rfl⟩
  · cases h
/-- What Ends returns. -/
def EndR (r : Option (List En × List Tt)) (p : Nat) (v : Value) (w' : World) : Prop := ∃ (A5 : Option Addr) (n5 c5 : Nat) (es' : List En), v = .tuple #[.slice A5 n5 c5, .bool (okR r)] ∧ SlE w' A5 n5 c5 es' ∧ n5 ≤ p ∧ ∀ es, r = some (es, []) → es' = es
set_option maxHeartbeats 6400000 in
set_option maxRecDepth 100000 in
theorem zends_any (A A' A2 : Option Addr) (n c m d p d2 : Nat) (ws : List Int) (ts plan : List Tt) (w : World) (h : Il w A n c ws) (h' : Ts w A' m d ts) (h2 : Ts w A2 p d2 plan) (hn : n ≤ 1000) (hm : m ≤ 1000) (hp : p ≤ 900) :
    Calls Tryd.prog 25 #[.slice A n c, .slice A' m d, .slice A2 p d2] w (Ret (EndR (rdF ts p (upL n) [] plan) p) w) := by
  have H := Lib.hid h
  have H' := Lib.hid h'
  have H2 := Lib.hid h2
  clear h h' h2
  go_enter Tryd.func25, Tryd.ntmps25
  go_wp2_with fail
  refine (zall_any A n c ws w H.out (by omega)).mono ?_
  rintro e w1 ⟨v1, rfl, ho1, hb1⟩
  have S1 := Lib.hid ho1.sl
  obtain ⟨A1, n1, c1, hv1, _⟩ := ho1.il3
  subst hv1
  have x1 : Ext w1 (w1.alloc (.cells #[] TIN)) := Ext.allocR _ _
  have S0 := Lib.hid (OwI.lit0 (base := w1.heap.size) (W := w1) (Nat.le_refl _)).sl
  have X1 := Lib.hid x1
  have XB := Lib.hid (show Ext w w1 from hb1)
  clear ho1 x1 hb1
  go_wp2_with fail
  refine (zread_any A A' n c m d ts (by omega) p A1 (some ⟨w1.heap.size, 0, none⟩) A2 n1 c1 0 0 p d2 (upL n) [] plan _ (H'.out.below (bt XB.out X1.out)) (S1.out.below X1.out) S0.out (H2.out.below (bt XB.out X1.out)) (Nat.le_refl _) (by rw [upL_len]; omega) (by simp; omega)).mono ?_
  rintro e w2 ⟨v2, rfl, ⟨A5, n5, c5, A6, n6, c6, es', rfl, hse, hn5, hr⟩, hb2⟩
  have X2 := Lib.hid (bt (bt XB.out X1.out) hb2)
  have HSE := Lib.hid hse
  have l5 := hse.le
  have l5' := hse.cap
  obtain ⟨r, hr0⟩ : ∃ r, rdF ts p (upL n) [] plan = r := ⟨_, rfl⟩
  rw [hr0] at hr ⊢
  have HR0 := Lib.hid hr0
  clear hse hb2 hr0
  cases r with
  | none =>
    clear hr
    simp only [Option.isSome_none]
    go_wp2
    go_returns
    exact ⟨_, rfl, ⟨_, _, _, _, by rw [HR0.out]; rfl, HSE.out, hn5, fun es h => by rw [HR0.out] at h; cases h⟩, X2.out⟩
  | some x =>
    obtain ⟨es, rest⟩ := x
    obtain ⟨rfl, hts, hl, hlt⟩ := hr es rest rfl
    simp only [Option.isSome_some]
    have HLR := Lib.hid hts.len
    have l6 := hts.le
    have l6' := hts.cap
    clear hr hts
    by_cases h6 : n6 = 0
    · subst h6
      have er : rest = [] := List.eq_nil_of_length_eq_zero HLR.out
      subst er
      go_wp2
      go_returns
      exact ⟨_, rfl, ⟨_, _, _, _, by rw [HR0.out]; rfl, HSE.out, hn5, fun es h => by rw [HR0.out] at h; injection h with h; injection h with h1 h2⟩, X2.out⟩
    · have p6 : ((n6 : Int) == 0) = false := by simpa using h6
      obtain ⟨b0, r0, er⟩ : ∃ b0 r0, rest = b0 :: r0 := by
        cases rest with
        | nil => exact absurd HLR.out.symm h6
        | cons b r => exact ⟨_, _, rfl⟩
      subst er
      go_wp2
      go_returns
      exact ⟨_, rfl, ⟨_, _, _, _, by rw [HR0.out]; rfl, HSE.out, hn5, fun es h => by rw [HR0.out] at h; injection h with h; injection h with h1 h2⟩, X2.out⟩
theorem csP_bd {ws way l : List Int} {ts : List Tt} (hw : ∀ j, 0 ≤ ws.getD j 0 ∧ ws.getD j 0 ≤ 1000) (ht : ∀ j, 0 ≤ tC ts j ∧ tC ts j ≤ 1000) (h1 : way.length ≤ 1000) (h2 : l.length ≤ 1000) : 0 ≤ csW ts way * wS ws l ∧ csW ts way * wS ws l ≤ 1000000000000 := by
  have a := wS_bd (l := l) hw
  have b := csW_bd (l := way) ht
  exact ⟨Int.mul_nonneg b.1 a.1, Int.le_trans (Int.mul_le_mul (show csW ts way ≤ 1000000 by omega) (show wS ws l ≤ 1000000 by omega) a.1 (by omega)) (by omega)⟩
theorem csE_bd {ws : List Int} {ts : List Tt} {n m : Nat} (hw : ∀ j, 0 ≤ ws.getD j 0 ∧ ws.getD j 0 ≤ 1000) (ht : ∀ j, 0 ≤ tC ts j ∧ tC ts j ≤ 1000) : ∀ es : List En, (∀ e ∈ es, EOk n m e) → 0 ≤ csE ws ts es ∧ csE ws ts es ≤ 1000000000000 * es.length := by
  intro es
  induction es with
  | nil => intro _; simp [csE]
  | cons e es ih =>
    intro h
    have e0 : csE ws ts (e :: es) = csW ts e.2 * wS ws e.1 + csE ws ts es := by simp [csE]
    have h1 := ih fun x hx => h x (List.mem_cons_of_mem _ hx)
    have h2 := h e (List.mem_cons_self ..)
    have h3 := csP_bd (way := e.2) (l := e.1) hw ht h2.2.2.2 h2.2.1
    rw [e0, List.length_cons]
    omega
theorem csE_take {ws : List Int} {ts : List Tt} {es : List En} {j : Nat} (hj : j < es.length) : csE ws ts (es.take (j + 1)) = csE ws ts (es.take j) + csW ts (es.getD j ([], [])).2 * wS ws (es.getD j ([], [])).1 := by
  rw [List.take_succ_eq_append_getElem hj, csE_app, csE_one]
  simp [List.getD, hj]
theorem wsm_wS (ws xs : List Int) : wsm ws xs xs.length = wS ws xs := by
  rw [wsm_sum ws xs _ (Nat.le_refl _), List.take_length]
  rfl
set_option maxHeartbeats 6400000 in
set_option maxRecDepth 100000 in
theorem zcost_any (A A' A3 : Option Addr) (n c m d q d3 : Nat) (ws : List Int) (ts : List Tt) (es : List En) (w : World) (h : Il w A n c ws) (h' : Ts w A' m d ts) (h3 : SlE w A3 q d3 es)
    (hw : ∀ j, 0 ≤ ws.getD j 0 ∧ ws.getD j 0 ≤ 1000) (ht : ∀ j, 0 ≤ tC ts j ∧ tC ts j ≤ 1000) (he : ∀ e ∈ es, EOk n m e) (hq : q ≤ 1000) :
    Calls Tryd.prog 26 #[.slice A n c, .slice A' m d, .slice A3 q d3] w (Ret (fun v _ => v = .int .i64 (csE ws ts es)) w) := by
  have hn := h.le
  have hc := h.cap
  have hm := h'.le
  have hd := h'.cap
  have hq3 := h3.le
  have hd3 := h3.cap
  have HL3 := Lib.hid h3.len
  have H := Lib.hid h
  have H' := Lib.hid h'
  have H3 := Lib.hid h3
  have HW := Lib.hid hw
  have HT := Lib.hid ht
  have HE := Lib.hid he
  clear h h' h3 hw ht he
  go_enter Tryd.func26, Tryd.ntmps26
  go_wp2_with fail
  go_loopw [7, 8] (fun s i wr => ∃ k : Nat, k ≤ q ∧ i = .int .i64 (k : Int) ∧ s = .int .i64 (csE ws ts (es.take k)) ∧ Ext w wr) (fun _ i _ => q - (intOf i).toNat)
  case atStart => exact ⟨0, by omega, rfl, rfl, Ext.refl _⟩
  case round =>
    obtain ⟨k, hk, rfl, rfl, hx⟩ := hrel
    have HX := Lib.hid hx
    by_cases hkq : k < q
    · have pk : (k : Int) < (q : Int) := by omega
      obtain ⟨e, hek⟩ : ∃ e, es.getD k ([], []) = e := ⟨_, rfl⟩
      have HEO := Lib.hid (show EOk n m e by rw [← hek]; exact HE.out _ (getD_in (by rw [HL3.out]; exact hkq)))
      obtain ⟨S, hS⟩ : ∃ S, csE ws ts (es.take k) = S := ⟨_, rfl⟩
      have hSb := csE_bd (n := n) (m := m) HW.out HT.out (es.take k) (fun x hx => HE.out x (List.mem_of_mem_take hx))
      rw [hS, List.length_take] at hSb
      have hSb2 : 0 ≤ S ∧ S ≤ 1000000000000000 := by omega
      have HS2 := Lib.hid (show csE ws ts (es.take (k + 1)) = S + csW ts e.2 * wS ws e.1 by rw [csE_take (by rw [HL3.out]; exact hkq), hS, hek])
      have HSE := Lib.hid (show csW ts (e.2.take 0) * wS ws e.1 = 0 by simp [csW])
      obtain ⟨b3, o3, rfl, hc3⟩ := (H3.out.below hx).at_ (by omega)
      obtain ⟨A1, n1, c1, A2, n2, c2, k1, k2, i1, i2⟩ := hc3 k hkq
      rw [hek] at i1 i2
      have l1 := i1.le
      have l1' := i1.cap
      have l2 := i2.le
      have l2' := i2.cap
      have I1 := Lib.hid i1
      have I2 := Lib.hid i2
      have K12 := Lib.hid (And.intro k1 k2)
      rw [hS]
      obtain ⟨wo, rfl⟩ : ∃ wo, wo = wr := ⟨_, rfl⟩
      clear hc3 hek hS hSb i1 i2 hx k1 k2
      go_wp2_with fail
      go_loopw [7, 9] (fun s i wr => ∃ j : Nat, j ≤ n2 ∧ i = .int .i64 (j : Int) ∧ s = .int .i64 (S + csW ts (e.2.take j) * wS ws e.1) ∧ Ext wo wr) (fun _ i _ => n2 - (intOf i).toNat)
      case atStart => exact ⟨0, by omega, rfl, by rw [HSE.out, Int.add_zero], Ext.refl _⟩
      case round =>
        obtain ⟨j, hj, rfl, rfl, hx⟩ := hrel
        have HX2 := Lib.hid hx
        have k2 := Ext.cell hx K12.out.2
        by_cases hjn : j < n2
        · have pj : (j : Int) < (n2 : Int) := by omega
          have k1 := Ext.cell hx K12.out.1
          have hjl : j < e.2.length := by rw [I2.out.len]; exact hjn
          have hyr := HEO.out.2.2.1 _ (getD_in (d := 0) hjl)
          obtain ⟨y, hy⟩ : ∃ y : Nat, e.2.getD j 0 = (y : Int) := ⟨(e.2.getD j 0).toNat, by omega⟩
          rw [hy] at hyr
          have hym : y < m := by omega
          have pym : (y : Int) < (m : Int) := by omega
          obtain ⟨b2, o2, rfl, hc2⟩ := (I2.out.below hx).at_ (by omega)
          have ck2 := hc2 j hjn
          rw [hy] at ck2
          obtain ⟨bT, oT, rfl, hcT⟩ := (H'.out.below (bt HX.out hx)).at_ (by omega)
          obtain ⟨ckT, _⟩ := hcT y hym
          obtain ⟨x, hxx⟩ : ∃ x, tC ts y = x := ⟨_, rfl⟩
          rw [hxx] at ckT
          have hb1 := csP_bd (way := e.2.take j) (l := e.1) HW.out HT.out (by rw [List.length_take]; have := HEO.out.2.2.2; omega) HEO.out.2.1
          have hb2 := csP_bd (way := e.2.take (j + 1)) (l := e.1) HW.out HT.out (by rw [List.length_take]; have := HEO.out.2.2.2; omega) HEO.out.2.1
          have hst := csW_take (ts := ts) hjl
          rw [hy, Int.toNat_natCast, hxx] at hst
          rw [hst, Int.add_mul] at hb2
          obtain ⟨V, hV⟩ : ∃ V, wS ws e.1 = V := ⟨_, rfl⟩
          have HWV := Lib.hid (show wsm ws e.1 n1 = V by rw [← hV, ← wsm_wS, I1.out.len])
          rw [hV] at hb1 hb2 ⊢
          obtain ⟨F, hF⟩ : ∃ F, csW ts (e.2.take j) * V = F := ⟨_, rfl⟩
          obtain ⟨G, hG⟩ : ∃ G, x * V = G := ⟨_, rfl⟩
          rw [hF] at hb1
          rw [hF, hG] at hb2
          have HN := Lib.hid (show S + csW ts (e.2.take (j + 1)) * V = S + F + G by rw [hst, Int.add_mul, hF, hG]; omega)
          obtain ⟨U, hU⟩ : ∃ U, S + F = U := ⟨_, rfl⟩
          rw [hU] at HN
          rw [hF, hU]
          have hq1 : wrap64 (U + wrap64 (x * V)) = U + G := by rw [hG]; unfold wrap64; omega
          have hq2 : wrap64 (U + x * V) = U + G := by rw [hG]; unfold wrap64; omega
          obtain ⟨z, hz⟩ : ∃ z, U + G = z := ⟨_, rfl⟩
          rw [hz] at hq1 hq2 HN
          have HV := Lib.hid hV
          have kk1 := fun w' (hh : Ext wr w') => (show w'.cell? ⟨b3, o3 + k * 2, none⟩ = some (.slice A1 n1 c1) from Ext.cell hh k1)
          have kk2 := fun w' (hh : Ext wr w') => (show w'.cell? ⟨b3, o3 + k * 2 + 1, none⟩ = some (.slice (some ⟨b2, o2, none⟩) n2 c2) from Ext.cell hh k2)
          have kk3 := fun w' (hh : Ext wr w') => (show w'.cell? ⟨b2, o2 + j, none⟩ = some (.int .i64 (y : Int)) from Ext.cell hh ck2)
          have kk4 := fun w' (hh : Ext wr w') => (show w'.cell? ⟨bT, oT + y * 2, none⟩ = some (.int .i64 x) from Ext.cell hh ckT)
          have hst2 : Ext wr wr.drew := Ext.drew _
          clear hc2 hcT hy hyr hb1 hb2 hst hF hG hU hz hV hxx ck2 ckT hx hjl
          go_upto_region 8 with fail
          refine wp_region_adv 21 [] [(0, true, some 26, none), (1, true, some 27, none), (2, true, some 28, none), (3, true, some 29, none), (4, true, some 30, none), (5, true, some 31, none), (6, true, some 32, none), (7, true, some 33, none), (8, true, some 34, none), (9, true, some 35, none), (10, true, some 36, none), (11, true, some 37, none), (12, true, some 38, none), (13, true, some 39, none), (14, true, some 40, none), (15, true, some 41, none), (16, true, some 42, none), (17, true, some 43, none), (18, true, some 44, none), (19, false, some 45, none), (20, true, some 46, none)] (by kernel_rfl) (by kernel_rfl) (by kernel_rfl) (by intro it hit; (repeat (rcases List.mem_cons.1 hit with rfl | hit; (focus (intro o ho ev w; injection ho with ho; subst ho; kernel_rfl)))); cases hit) (fun _ _ _ _ _ => ⟨fun h => h, fun h => h⟩) hst2 ?_
          repeat (first | (refine wpSeq_pure (v := ?_) rfl ?_ ?_; rotate_left 1; (focus (intro wq_ hSq_; (try dsimp only at hSq_); go_simp; (try with_reducible rfl); done)); (try simp only [Act.put, List.setIfInBounds_toArray, List.set_cons_zero, List.set_cons_succ])) | (refine wpSeq_pureG (v := ?_) rfl rfl ?_ ?_; rotate_left 1; (focus (intro wq_ hSq_; (try dsimp only at hSq_); go_simp; (try with_reducible rfl); done)); (try simp only [Act.put, List.setIfInBounds_toArray, List.set_cons_zero, List.set_cons_succ])) | (refine wpSeq_off rfl rfl ?_; (try simp only [Act.put, List.setIfInBounds_toArray, List.set_cons_zero, List.set_cons_succ])))
          first | refine wpSeq_call rfl (fun u1 g1 s1 K hK => ?_) | refine wpSeq_callG rfl rfl (fun u1 g1 s1 K hK => ?_)
          go_simp
          refine (zweight_any A A1 n c n1 c1 ws e.1 u1 (H.out.below (bt HX.out (bt HX2.out s1))) (I1.out.below (bt HX2.out s1)) (fun j _ => HW.out j) (fun j hj => HEO.out.1 _ (getD_in (by rw [I1.out.len]; exact hj))) (by have h1 := HEO.out.2.1; have h2 := I1.out.len; omega)).mono ?_
          rintro e9 y1 ⟨z1, rfl, rfl, b1⟩
          rw [HWV.out]
          (try go_wp2_with fail)
          refine hK.out _ _ b1 ?_
          clear hK K
          (try simp only [Act.put, List.setIfInBounds_toArray, List.set_cons_zero, List.set_cons_succ])
          repeat (first | (refine wpSeq_pure (v := ?_) rfl ?_ ?_; rotate_left 1; (focus (intro wq_ hSq_; (try dsimp only at hSq_); go_simp; (try with_reducible rfl); done)); (try simp only [Act.put, List.setIfInBounds_toArray, List.set_cons_zero, List.set_cons_succ])) | (refine wpSeq_pureG (v := ?_) rfl rfl ?_ ?_; rotate_left 1; (focus (intro wq_ hSq_; (try dsimp only at hSq_); go_simp; (try with_reducible rfl); done)); (try simp only [Act.put, List.setIfInBounds_toArray, List.set_cons_zero, List.set_cons_succ])) | (refine wpSeq_off rfl rfl ?_; (try simp only [Act.put, List.setIfInBounds_toArray, List.set_cons_zero, List.set_cons_succ])))
          intro wz gz sz_
          (try simp only [endJ, List.drop_succ_cons, List.drop_zero])
          have XZ := Lib.hid (bt HX2.out sz_)
          clear hst2 kk1 kk2 kk3 kk4 g1 s1 b1 gz sz_
          go_wp2
          go_roundw
          case rel => exact ⟨j + 1, by omega, by go_num, by rw [HN.out, hq1], XZ.out⟩
          case measure => simp [intOf]; omega
        · obtain rfl : j = n2 := by omega
          have HN := Lib.hid (show S + csW ts (e.2.take j) * wS ws e.1 = csE ws ts (es.take (k + 1)) by rw [HS2.out, List.take_of_length_le (by rw [I2.out.len]; exact Nat.le_refl _)])
          rw [HN.out]
          clear hx
          go_wp2
          go_roundw
          case rel => exact ⟨k + 1, by omega, by go_num, rfl, bt HX.out HX2.out⟩
          case measure => simp [intOf]; omega
    · obtain rfl : k = q := by omega
      have HN := Lib.hid (show es.take k = es from List.take_of_length_le (by rw [HL3.out]; exact Nat.le_refl _))
      rw [HN.out]
      clear hx
      go_wp2
      go_returns
      exact ⟨_, rfl, rfl, HX.out⟩
end Go.Proofs.Tb
