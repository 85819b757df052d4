/- The law TopPooled: fold, the frame. -/
import Derived.Test.YtjiccpacpcongaaUq
import Derived.Test.YtjiccpacpcongaaUl
set_option linter.unusedVariables false
set_option linter.unusedSimpArgs false
namespace Go.Proofs.Tb
open Go.RowKit Go.Lib
attribute [local go_sem] cell_set_same

theorem cycT (x : Int) (L : Nat) (h1 : 1 ≤ L) (h2 : L ≤ 1000000) : ∃ e : Nat, e < L ∧ (wrap64 (x.tmod L + L)).tmod L = (e : Int) := by
  have hL : (0 : Int) < (L : Int) := by omega
  have a1 := Int.tmod_lt_of_pos x hL
  have a2 := Int.lt_tmod_of_pos x hL
  obtain ⟨r, hr⟩ : ∃ r, x.tmod (L : Int) = r := ⟨_, rfl⟩
  rw [hr] at a1 a2 ⊢
  have hw : wrap64 (r + L) = r + L := by unfold wrap64; omega
  rw [hw]
  have b1 := Int.tmod_lt_of_pos (r + L) hL
  have b2 := Int.tmod_nonneg (L : Int) (show 0 ≤ r + L by omega)
  exact ⟨((r + L).tmod L).toNat, by omega, by omega⟩
set_option maxHeartbeats 1600000 in
set_option maxRecDepth 100000 in
theorem tfold_any (v : Int) (n : Nat) (h1 : 1 ≤ n) (h2 : n ≤ 1000000) (w : World) : Calls Try.prog 4 #[.int .i64 v, .int .i64 (n : Int)] w (Ret (fun z _ => ∃ e : Nat, e < n ∧ z = .int .i64 (e : Int)) w) := by
  obtain ⟨e, he, hee⟩ := cycT v n h1 h2
  have HE := Lib.hid he
  have hn0 : ¬ n = 0 := by omega
  clear he h1 h2
  go_enter Try.func4, Try.ntmps4
  go_wp2
  (try simp only [Exit.inBlock, Exit.then])
  refine bodyPost_ret (v := (.int .i64 (e : Int))) (by simp [results, Try.results4, go_sem, *]) rfl ?_
  exact ⟨_, rfl, ⟨e, HE.out, rfl⟩, Ext.refl _⟩
/-- What the law holds on to. -/
structure LwS (w : World) (q P D E : Nat) (d0 d1 : Nat) (vm vw : Value) (w' : World) : Prop where
  md : Blk w' D TPO #[.int .i64 (q : Int), .int .i64 2, .int .i64 (P : Int)]
  dg : OwC 0 w' (.slice (some ⟨E, 0, none⟩) 2 2) [(d0 : Int), (d1 : Int)]
  mb : OwC 0 w' vm (mbL q [(d0 : Int), (d1 : Int)] P)
  wd : OwC 0 w' vw (wdL q [(d0 : Int), (d1 : Int)] P)
  ex : Ext w w'
theorem LwS.ext {w : World} {q P D E d0 d1 : Nat} {vm vw : Value} {w' w'' : World} (h : LwS w q P D E d0 d1 vm vw w') (x : Ext w' w'') : LwS w q P D E d0 d1 vm vw w'' :=
  ⟨h.md.below x, h.dg.below x, h.mb.below x, h.wd.below x, bt h.ex x⟩
theorem OwC.at_ {base : Nat} {w : World} {b n c : Nat} {l : List Int} (h : OwC base w (.slice (some ⟨b, 0, none⟩) n c) l) {j : Nat} (hj : j < n) : w.cell? ⟨b, j, none⟩ = some (.int .i64 (ro l j)) := by
  obtain ⟨b', e, _, _, hc⟩ := h.cell (by omega)
  injection e with e
  injection e with e
  subst e
  exact hc j hj
theorem OwC.some_ {base : Nat} {w : World} {A : Option Addr} {n c : Nat} {l : List Int} (h : OwC base w (.slice A n c) l) (hn : 0 < n) : ∃ b, A = some ⟨b, 0, none⟩ := by
  obtain ⟨b, e, _⟩ := h.cell hn
  exact ⟨b, e⟩
set_option maxHeartbeats 12800000 in
set_option maxRecDepth 100000 in
theorem rpooled_any {A : Option Addr} {n c : Nat} {zs : List Int} (a0 a1 a2 it : Int) (w : World) (hz : Rv w 1 A n c (ci zs)) :
    Calls Try.prog 3 #[.agg #[.int .i64 a0, .int .i64 a1, .int .i64 a2], .int .i64 it, .slice A n c] w (Ret (fun z _ => z = .bool true) w) := by
  have HZ := Lib.hid hz
  have hzl := hz.len
  rw [ci_len, Nat.mul_one] at hzl
  have hle := hz.le
  have hcp := hz.cap
  obtain ⟨B, hB⟩ : ∃ B, w.heap.size = B := ⟨_, rfl⟩
  obtain ⟨WA, hWA⟩ : ∃ WA, WA = (w.alloc (.cells #[.int .i64 a0, .int .i64 a1, .int .i64 a2] TPO)).alloc (.cells #[.int .i64 5, .int .i64 7, .int .i64 11, .int .i64 13] TIN) := ⟨_, rfl⟩
  have b1 : Blk WA B TPO #[.int .i64 a0, .int .i64 a1, .int .i64 a2] := by rw [hWA]; exact (Blk.new_ _ _ hB).alloc _
  have b2 : Blk WA (B + 1) TIN #[.int .i64 5, .int .i64 7, .int .i64 11, .int .i64 13] := by rw [hWA]; exact Blk.new_ _ _ (by simp [hB])
  have xA : Ext w WA := by rw [hWA]; exact bt (Ext.allocR _ _) (Ext.allocR _ _)
  have HA := Lib.hid (And.intro b1 (And.intro b2 xA))
  clear b1 b2 xA hz
  go_enter Try.func3, Try.ntmps3
  go_wp2_with fail
  rw [← hWA]
  refine (tfold_any a0 4 (by omega) (by omega) WA).mono ?_
  rintro e w1 ⟨z, rfl, ⟨e0, he0, rfl⟩, b1⟩
  have X1 := Lib.hid (bt HA.out.2.2 b1)
  obtain ⟨q, hq, kq⟩ : ∃ q : Nat, Q4 q ∧ w1.cell? ⟨B + 1, e0, none⟩ = some (.int .i64 (q : Int)) := by
    have h4 := (HA.out.2.1.below b1).cells
    simp only [cellsAre, Nat.zero_add, Nat.reduceAdd, and_true] at h4
    obtain ⟨r0, r1, r2, r3⟩ := h4
    obtain rfl | rfl | rfl | rfl : e0 = 0 ∨ e0 = 1 ∨ e0 = 2 ∨ e0 = 3 := by omega
    · exact ⟨5, Or.inl rfl, r0⟩
    · exact ⟨7, Or.inr (Or.inl rfl), r1⟩
    · exact ⟨11, Or.inr (Or.inr (Or.inl rfl)), r2⟩
    · exact ⟨13, Or.inr (Or.inr (Or.inr rfl)), r3⟩
  have k3 := (HA.out.1.below b1).cells
  simp only [cellsAre, Nat.zero_add, Nat.reduceAdd, and_true] at k3
  have HQ := Lib.hid hq
  have hqb : 5 ≤ q ∧ q ≤ 13 := by rcases hq with h | h | h | h <;> omega
  obtain ⟨hq5, hq13⟩ := hqb
  have pe0 : (e0 : Int) < 4 := by omega
  obtain ⟨q2, hq2⟩ : ∃ q2, q - 2 = q2 := ⟨_, rfl⟩
  have wq2 : IntKind.i64.wrap ((q : Int) - 2) = (q2 : Int) := by rw [IntWalk.i64_in _ (by omega)]; omega
  clear b1 hq hWA
  go_wp2_with fail
  refine (tfold_any a2 q2 (by omega) (by omega) w1).mono ?_
  rintro e w2 ⟨z, rfl, ⟨e2, he2, rfl⟩, b2⟩
  have X2 := Lib.hid (bt X1.out b2)
  obtain ⟨P, hP⟩ : ∃ P, 3 + e2 = P := ⟨_, rfl⟩
  have hP3 : 3 ≤ P := by omega
  have hPq : P ≤ q := by omega
  have wP : IntKind.i64.wrap (3 + (e2 : Int)) = (P : Int) := by rw [IntWalk.i64_in _ (by omega)]; omega
  have hqq : q * q ≤ 13 * 13 := Nat.mul_le_mul hq13 hq13
  obtain ⟨qq, hqq_⟩ : ∃ qq, q * q = qq := ⟨_, rfl⟩
  have wqq : IntKind.i64.wrap ((q : Int) * (q : Int)) = (qq : Int) := by rw [← Int.natCast_mul, hqq_, IntWalk.i64_in _ (by omega)]
  have hq1 : 1 ≤ qq := by rw [← hqq_]; exact Nat.mul_le_mul (show 1 ≤ q by omega) (show 1 ≤ q by omega)
  have HQQ := Lib.hid hqq_
  rw [hqq_] at hqq
  clear b2 hP kq k3 he2 hq2 wq2 hqq_ he0 pe0
  go_wp2_with fail
  obtain ⟨w3, hw3⟩ : ∃ w3, w2.alloc (.cells #[.int .i64 (q : Int), .int .i64 2, .int .i64 (P : Int)] TPO) = w3 := ⟨_, rfl⟩
  obtain ⟨D, hD⟩ : ∃ D, w2.heap.size = D := ⟨_, rfl⟩
  have hbd : Blk w3 D TPO #[.int .i64 (q : Int), .int .i64 2, .int .i64 (P : Int)] := by rw [← hw3]; exact Blk.new_ _ _ hD
  have hx3 : Ext w w3 := by rw [← hw3]; exact bt X2.out (Ext.allocR _ _)
  have HD := Lib.hid (And.intro hbd hx3)
  rw [hw3, hD]
  clear hw3 hD hbd hx3
  refine (tfold_any it qq hq1 (by omega) w3).mono ?_
  rintro e w4 ⟨z, rfl, ⟨i, hi, rfl⟩, b4⟩
  have X4 := Lib.hid (And.intro (HD.out.1.below b4) (bt HD.out.2 b4))
  have hib : i ≤ 200 := by omega
  have hiq : i < q * q := by rw [HQQ.out]; exact hi
  have hq0 : ¬ (q : Int) = 0 := by omega
  obtain ⟨d0, hd0⟩ : ∃ d0, i % q = d0 := ⟨_, rfl⟩
  obtain ⟨d1, hd1⟩ : ∃ d1, i / q = d1 := ⟨_, rfl⟩
  have hd0q : d0 < q := by rw [← hd0]; exact Nat.mod_lt _ (by omega)
  have hd1q : d1 < q := by rw [← hd1]; exact Nat.div_lt_of_lt_mul hiq
  have pr : ((i : Nat) : Int) % (q : Int) = (d0 : Int) := by rw [← hd0]; rfl
  have pd : ((i : Nat) : Int) / (q : Int) = (d1 : Int) := by rw [← hd1]; rfl
  have prt : ((i : Nat) : Int).tmod (q : Int) = (d0 : Int) := by rw [← hd0]; rfl
  have pdt : ((i : Nat) : Int).tdiv (q : Int) = (d1 : Int) := by rw [← hd1]; rfl
  have hq0n : ¬ q = 0 := by omega
  have wd1 : IntKind.i64.wrap (d1 : Int) = (d1 : Int) := by rw [IntWalk.i64_in _ (by omega)]
  have HDG := Lib.hid (show dgL q i 2 = [(d0 : Int), (d1 : Int)] from by rw [dgL_two (by omega) hiq, hd0, hd1])
  have HIQ := Lib.hid hiq
  have k4 := X4.out.1.cells
  simp only [cellsAre, Nat.zero_add, Nat.reduceAdd, and_true] at k4
  clear b4 hd0 hd1 hi hiq
  go_upto_region 4 with fail
  have hst : Ext w4 w4.drew := Ext.drew _
  refine wp_region_adv 6 [] [(0, true, some 44, none), (1, true, some 45, none), (2, true, some 46, none), (3, true, some 47, none), (4, true, some 48, none), (5, true, some 49, none)] (by kernel_rfl) (by kernel_rfl) (by kernel_rfl) (by intro it hit; (repeat (rcases List.mem_cons.1 hit with rfl | hit; (focus (intro o ho ev w; injection ho with ho; subst ho; kernel_rfl)))); cases hit) (fun _ _ _ _ _ => ⟨fun h => h, fun h => h⟩) hst ?_
  repeat (first | (refine wpSeq_pure (v := ?_) rfl ?_ ?_; rotate_left 1; (focus (intro wq_ hSq_; (try dsimp only at hSq_); go_simp; (try with_reducible rfl); done)); (try simp only [Act.put, List.setIfInBounds_toArray, List.set_cons_zero, List.set_cons_succ])) | (refine wpSeq_pureG (v := ?_) rfl rfl ?_ ?_; rotate_left 1; (focus (intro wq_ hSq_; (try dsimp only at hSq_); go_simp; (try with_reducible rfl); done)); (try simp only [Act.put, List.setIfInBounds_toArray, List.set_cons_zero, List.set_cons_succ])) | (refine wpSeq_off rfl rfl ?_; (try simp only [Act.put, List.setIfInBounds_toArray, List.set_cons_zero, List.set_cons_succ])) | (refine wpSeq_offU rfl ?_; (try simp only [Act.put, List.setIfInBounds_toArray, List.set_cons_zero, List.set_cons_succ])))
  intro wz gz sz
  (try simp only [endJ, List.drop_succ_cons, List.drop_zero])
  have XZ := Lib.hid (show Ext w4 wz from sz)
  clear hst gz sz k4
  go_upto_region 5 with fail
  obtain ⟨w5, hw5⟩ : ∃ w5, wz.alloc (.cells #[.int .i64 (d0 : Int), .int .i64 (d1 : Int)] TIN) = w5 := ⟨_, rfl⟩
  obtain ⟨E, hE⟩ : ∃ E, wz.heap.size = E := ⟨_, rfl⟩
  have hx5 : Ext w4 w5 := by rw [← hw5]; exact bt XZ.out (Ext.allocR _ _)
  have hdg5 : OwC E w5 (.slice (some ⟨E, 0, none⟩) 2 2) [(d0 : Int), (d1 : Int)] := by
    rw [← hw5, ← hE]
    exact own_lit TIN 1 #[.int .i64 (d0 : Int), .int .i64 (d1 : Int)] 2 (Nat.le_refl _) (by omega) rfl
  have H5 := Lib.hid (And.intro hdg5 (And.intro (X4.out.1.below hx5) (bt X4.out.2 hx5)))
  rw [hw5, hE]
  clear hw5 hE hx5 hdg5
  have k5 := H5.out.2.1.cells
  simp only [cellsAre, Nat.zero_add, Nat.reduceAdd, and_true] at k5
  go_wp2_with fail
  refine (rMembers_any HQ.out (by omega) hPq HIQ.out w5).mono ?_
  rintro e w6 ⟨z, rfl, ⟨z6, rfl, o6⟩, b6⟩
  rw [HDG.out] at o6
  obtain ⟨A6, c6, e6, _⟩ := o6.form
  have hm6 : (mbL q [(d0 : Int), (d1 : Int)] P).length = P := by unfold mbL; simp
  rw [hm6] at e6
  subst e6
  have H6 := Lib.hid (And.intro o6 (And.intro (H5.out.1.below b6) (And.intro (H5.out.2.1.below b6) (bt H5.out.2.2 b6))))
  have k6 := H6.out.2.2.1.cells
  simp only [cellsAre, Nat.zero_add, Nat.reduceAdd, and_true] at k6
  clear o6 b6 k5
  go_wp2_with fail
  have HDR := Lib.hid (show ∀ a ∈ [(d0 : Int), (d1 : Int)], 0 ≤ a ∧ a < (q : Int) from fun a ha => by
    rcases List.mem_cons.1 ha with h | h
    · rw [h]; omega
    · rw [List.mem_singleton.1 h]; omega)
  refine (rEngrave_any (n := P) HQ.out w6 (H6.out.2.1.lower (Nat.zero_le _)) (by omega) (by omega) hPq HDR.out).mono ?_
  rintro e w7 ⟨z, rfl, ⟨A7, c7, rfl, o7⟩, b7⟩
  have H7 := Lib.hid (LwS.mk (H6.out.2.2.1.below b7) ((H6.out.2.1.below b7).lower (Nat.zero_le _)) ((H6.out.1.below b7).lower (Nat.zero_le _)) (o7.lower (Nat.zero_le _)) (bt H6.out.2.2.2 b7) : LwS w q P D E d0 d1 (.slice A6 P c6) (.slice A7 P c7) w7)
  obtain ⟨M6, rfl⟩ := H7.out.mb.some_ (by omega)
  obtain ⟨M7, rfl⟩ := H7.out.wd.some_ (by omega)
  have k7 := H7.out.md.cells
  simp only [cellsAre, Nat.zero_add, Nat.reduceAdd, and_true] at k7
  clear o7 b7 k6 H6
  go_wp2_with fail
  refine (rstrength_any HQ.out (by omega) hPq w7).mono ?_
  rintro e w8 ⟨z, rfl, rfl, b8⟩
  have H8 := Lib.hid (H7.out.ext b8)
  have k8 := H8.out.md.cells
  simp only [cellsAre, Nat.zero_add, Nat.reduceAdd, and_true] at k8
  have wp1 : IntKind.i64.wrap ((P : Int) - 1) = (P : Int) - 1 := by rw [IntWalk.i64_in _ (by omega)]
  clear b8 k7 H7 H5 X4
  go_wp2_with fail
  go_loopw [16] (fun xv wr => ∃ x : Nat, x ≤ P ∧ xv = .int .i64 (x : Int) ∧ Ext w8 wr) (fun xv _ => P - (intOf xv).toNat)
  case atStart => exact ⟨0, by omega, rfl, Ext.refl _⟩
  case round =>
    obtain ⟨x, hx, rfl, hxx⟩ := hrel
    obtain ⟨W, rfl⟩ : ∃ W, W = wr := ⟨_, rfl⟩
    have HXX := Lib.hid hxx
    have HW := Lib.hid (H8.out.ext hxx)
    by_cases hxP : x < P
    · have px : (x : Int) < (P : Int) := by omega
      have wx : IntKind.i64.wrap ((x : Int) + 1) = ((x + 1 : Nat) : Int) := by rw [IntWalk.i64_in _ (by omega)]; rfl
      have hxq : x * q ≤ 13 * 13 := Nat.mul_le_mul (by omega) hq13
      obtain ⟨xq, hxq_⟩ : ∃ xq, x * q = xq := ⟨_, rfl⟩
      have wxq : IntKind.i64.wrap ((x : Int) * (q : Int)) = (xq : Int) := by rw [← Int.natCast_mul, hxq_, IntWalk.i64_in _ (by omega)]
      rw [hxq_] at hxq
      have hvr := hv_in (q := (q : Int)) (by omega) [(d0 : Int), (d1 : Int)] (x : Int)
      obtain ⟨y, hy⟩ : ∃ y, hv (q : Int) [(d0 : Int), (d1 : Int)] (x : Int) = y := ⟨_, rfl⟩
      rw [hy] at hvr
      have wsum : IntKind.i64.wrap ((xq : Int) + y) = (xq : Int) + y := by rw [IntWalk.i64_in _ (by omega)]
      have kka : ∀ w', Ext W w' → w'.cell? ⟨M6, x, none⟩ = some (.int .i64 ((xq : Int) + y)) := fun w' hh => by
        rw [(HW.out.mb.below hh).at_ hxP]
        unfold mbL
        rw [ro_range _ _ hxP, hy, ← hxq_]
        rfl
      have kkb : ∀ w', Ext W w' → w'.cell? ⟨M7, x, none⟩ = some (.int .i64 y) := fun w' hh => by
        rw [(HW.out.wd.below hh).at_ hxP]
        unfold wdL
        rw [ro_range _ _ hxP, hy]
      clear hy hxq_ hxx
      go_upto_region 13 with fail
      have hst : Ext W W.drew := Ext.drew _
      refine wp_region_adv 12 [] [(0, true, some 107, none), (1, true, some 108, none), (2, true, some 109, none), (3, true, some 110, none), (4, true, some 111, none), (5, true, some 112, none), (6, true, some 113, none), (7, true, some 114, none), (8, true, some 115, none), (9, true, some 116, none), (10, true, some 117, none), (11, true, some 118, none)] (by kernel_rfl) (by kernel_rfl) (by kernel_rfl) (by intro it hit; (repeat (rcases List.mem_cons.1 hit with rfl | hit; (focus (intro o ho ev w; injection ho with ho; subst ho; kernel_rfl)))); cases hit) (fun _ _ _ _ _ => ⟨fun h => h, fun h => h⟩) hst ?_
      repeat (first | (refine wpSeq_pure (v := ?_) rfl ?_ ?_; rotate_left 1; (focus (intro wq_ hSq_; (try dsimp only at hSq_); go_simp; (try with_reducible rfl); done)); (try simp only [Act.put, List.setIfInBounds_toArray, List.set_cons_zero, List.set_cons_succ])) | (refine wpSeq_pureG (v := ?_) rfl rfl ?_ ?_; rotate_left 1; (focus (intro wq_ hSq_; (try dsimp only at hSq_); go_simp; (try with_reducible rfl); done)); (try simp only [Act.put, List.setIfInBounds_toArray, List.set_cons_zero, List.set_cons_succ])) | (refine wpSeq_off rfl rfl ?_; (try simp only [Act.put, List.setIfInBounds_toArray, List.set_cons_zero, List.set_cons_succ])) | (refine wpSeq_offU rfl ?_; (try simp only [Act.put, List.setIfInBounds_toArray, List.set_cons_zero, List.set_cons_succ])))
      intro wz gz sz
      (try simp only [endJ, List.drop_succ_cons, List.drop_zero])
      have XZ := Lib.hid (bt HXX.out sz)
      clear hst gz sz kka kkb
      go_wp2_with fail
      exact ⟨⟨x + 1, by omega, by go_num, XZ.out⟩, by simp [intOf]; omega⟩
    · obtain rfl : P = x := by omega
      clear hxx k8
      have hwl : (wdL q [(d0 : Int), (d1 : Int)] P).length = P := wdL_len _ _ _
      go_wp2_with (at_builtin; refine wpl_appC rfl _ _ rfl W.heap.size (.slice (some ⟨W.heap.size, 0, none⟩) 0 0) [] rfl (own_lit TIN 1 #[] 0 (Nat.le_refl _) (by omega) rfl) (some ⟨M7, 0, none⟩) P c7 (wdL q [(d0 : Int), (d1 : Int)] P) rfl ((HW.out.wd.below (Ext.allocR W (.cells #[] TIN))).rv) (by simp) (by omega) (by simp) ?_; intro A9 n9 c9 w9 o9 b9 g9; have H9 := Lib.hid (And.intro o9 (show Ext W w9 from Below.trans (Ext.allocR W (.cells #[] TIN)) b9)); clear o9 b9 g9)
      have hn9 := H9.out.1.len
      rw [List.nil_append, hwl] at hn9
      subst hn9
      obtain ⟨G, rfl⟩ := H9.out.1.some_ (by omega)
      have HG := Lib.hid (own_geE H9.out.1 G rfl)
      have HWS := Lib.hid (Ext.size HXX.out)
      obtain ⟨m, hm⟩ : ∃ m, P - 2 = m := ⟨_, rfl⟩
      obtain ⟨t, ht⟩ : ∃ t, (P - 2) / 2 = t := ⟨_, rfl⟩
      have w2_ : IntKind.i64.wrap ((P : Int) - 2) = (m : Int) := by rw [IntWalk.i64_in _ (by omega)]; omega
      have pd2 : ((m : Nat) : Int) / 2 = (t : Int) := by omega
      have wt : IntKind.i64.wrap (t : Int) = (t : Int) := by rw [IntWalk.i64_in _ (by omega)]
      have htb : t ≤ 6 := by omega
      have HT := Lib.hid (And.intro hm ht)
      have H9r := Lib.hid (show ∀ y ∈ wdL q [(d0 : Int), (d1 : Int)] P, 0 ≤ y ∧ y < (q : Int) from fun y hy => by
        unfold wdL at hy
        obtain ⟨x, _, rfl⟩ := List.mem_map.1 hy
        exact hv_in (by omega) _ _)
      clear hm ht hwl
      go_loopw [18] (fun jv wr => ∃ (j : Nat) (ks : List Nat) (ys : List Int), j ≤ t ∧ j ≤ n ∧ jv = .int .i64 (j : Int) ∧ ks.length = j ∧ OwC W.heap.size wr (.slice (some ⟨G, 0, none⟩) P c9) ys ∧ (∀ y ∈ ys, 0 ≤ y ∧ y < (q : Int)) ∧ (∀ x, x < P → x ∉ ks → ro ys x = hv (q : Int) [(d0 : Int), (d1 : Int)] (x : Int)) ∧ Ext W wr) (fun jv _ => t - (intOf jv).toNat)
      case atStart => exact ⟨0, [], _, by omega, by omega, rfl, rfl, H9.out.1, H9r.out, fun x hx _ => by
        rw [List.nil_append]; unfold wdL; rw [ro_range _ _ hx], H9.out.2⟩
      case round =>
        clear H9 H9r
        obtain ⟨j, ks, ys, hjt, hjn, rfl, hkl, hO, hyr, hyx, hx3⟩ := hrel
        obtain ⟨W3, rfl⟩ : ∃ W3, W3 = wr := ⟨_, rfl⟩
        have HJ := Lib.hid (And.intro hkl (And.intro hO (And.intro hyr (And.intro hyx hx3))))
        have HL := Lib.hid (HW.out.ext hx3)
        have kD := HL.out.md.cells
        simp only [cellsAre, Nat.zero_add, Nat.reduceAdd, and_true] at kD
        clear hkl hO hyr hyx hx3
        by_cases hjn2 : j < n
        · have pjn : (j : Int) < (n : Int) := by omega
          by_cases hjt2 : j < t
          · have pjt : (j : Int) < (t : Int) := by omega
            have wj : IntKind.i64.wrap ((j : Int) + 1) = ((j + 1 : Nat) : Int) := by rw [IntWalk.i64_in _ (by omega)]; rfl
            obtain ⟨bz, oz, eA, hcz⟩ := HZ.out.at_ (by omega)
            subst eA
            have kz0 := hcz j _ (ci_at (show j < zs.length by omega))
            obtain ⟨nz, hnz⟩ : ∃ nz, ro zs j = nz := ⟨_, rfl⟩
            rw [hnz] at kz0
            have kz : ∀ w', Ext W3 w' → w'.cell? ⟨bz, oz + j, none⟩ = some (.int .i64 nz) := fun w' hh => ext_cell (bt HL.out.ex hh) kz0
            have kDD : ∀ w', Ext W3 w' → w'.cell? ⟨D, 2, none⟩ = some (.int .i64 (P : Int)) := fun w' hh => by
              have := (HL.out.md.below hh).cells
              simp only [cellsAre, Nat.zero_add, Nat.reduceAdd, and_true] at this
              exact this.2.2
            clear hcz hnz kz0
            go_upto_region 19 with fail
            have hst : Ext W3 W3.drew := Ext.drew _
            refine wp_region_adv 6 [] [(0, true, some 137, none), (1, true, some 138, none), (2, true, some 139, none), (3, true, some 140, none), (4, true, some 141, none), (5, true, some 142, none)] (by kernel_rfl) (by kernel_rfl) (by kernel_rfl) (by intro it hit; (repeat (rcases List.mem_cons.1 hit with rfl | hit; (focus (intro o ho ev w; injection ho with ho; subst ho; kernel_rfl)))); cases hit) (fun _ _ _ _ _ => ⟨fun h => h, fun h => h⟩) hst ?_
            repeat (first | (refine wpSeq_pure (v := ?_) rfl ?_ ?_; rotate_left 1; (focus (intro wq_ hSq_; (try dsimp only at hSq_); go_simp; (try with_reducible rfl); done)); (try simp only [Act.put, List.setIfInBounds_toArray, List.set_cons_zero, List.set_cons_succ])) | (refine wpSeq_pureG (v := ?_) rfl rfl ?_ ?_; rotate_left 1; (focus (intro wq_ hSq_; (try dsimp only at hSq_); go_simp; (try with_reducible rfl); done)); (try simp only [Act.put, List.setIfInBounds_toArray, List.set_cons_zero, List.set_cons_succ])) | (refine wpSeq_off rfl rfl ?_; (try simp only [Act.put, List.setIfInBounds_toArray, List.set_cons_zero, List.set_cons_succ])) | (refine wpSeq_offU rfl ?_; (try simp only [Act.put, List.setIfInBounds_toArray, List.set_cons_zero, List.set_cons_succ])))
            intro wz gz sz
            (try simp only [endJ, List.drop_succ_cons, List.drop_zero])
            have XZ := Lib.hid (show Ext W3 wz from sz)
            clear hst gz sz
            go_wp2_with fail
            refine (tfold_any nz P (by omega) (by omega) wz).mono ?_
            rintro e w10 ⟨z, rfl, ⟨x, hx, rfl⟩, b10⟩
            have X10 := Lib.hid (bt XZ.out b10)
            have px : (x : Int) < (P : Int) := by omega
            obtain ⟨y, hy⟩ : ∃ y, ro (wdL q [(d0 : Int), (d1 : Int)] P) x = y := ⟨_, rfl⟩
            have kz2 : ∀ w', Ext w10 w' → w'.cell? ⟨bz, oz + j, none⟩ = some (.int .i64 nz) := fun w' hh => kz w' (bt X10.out hh)
            have kw : ∀ w', Ext w10 w' → w'.cell? ⟨M7, x, none⟩ = some (.int .i64 y) := fun w' hh => by
              rw [(HL.out.wd.below (bt X10.out hh)).at_ hx, hy]
            clear b10 kz kDD hy
            go_upto_region 20 with fail
            have hst : Ext w10 w10.drew := Ext.drew _
            refine wp_region_adv 15 [] [(0, true, some 144, none), (1, true, some 145, none), (2, true, some 146, none), (3, true, some 147, none), (4, true, some 148, none), (5, true, some 149, none), (6, true, some 150, none), (7, true, some 151, none), (8, true, some 152, none), (9, true, some 153, none), (10, true, some 154, none), (13, true, some 157, none), (11, false, some 155, none), (12, true, some 156, none), (14, false, some 158, none)] (by kernel_rfl) (by kernel_rfl) (by kernel_rfl) (by intro it hit; (repeat (rcases List.mem_cons.1 hit with rfl | hit; (focus (intro o ho ev w; injection ho with ho; subst ho; kernel_rfl)))); cases hit) (fun _ _ _ _ _ => ⟨fun h => h, fun h => h⟩) hst ?_
            repeat (first | (refine wpSeq_pure (v := ?_) rfl ?_ ?_; rotate_left 1; (focus (intro wq_ hSq_; (try dsimp only at hSq_); go_simp; (try with_reducible rfl); done)); (try simp only [Act.put, List.setIfInBounds_toArray, List.set_cons_zero, List.set_cons_succ])) | (refine wpSeq_pureG (v := ?_) rfl rfl ?_ ?_; rotate_left 1; (focus (intro wq_ hSq_; (try dsimp only at hSq_); go_simp; (try with_reducible rfl); done)); (try simp only [Act.put, List.setIfInBounds_toArray, List.set_cons_zero, List.set_cons_succ])) | (refine wpSeq_off rfl rfl ?_; (try simp only [Act.put, List.setIfInBounds_toArray, List.set_cons_zero, List.set_cons_succ])) | (refine wpSeq_offU rfl ?_; (try simp only [Act.put, List.setIfInBounds_toArray, List.set_cons_zero, List.set_cons_succ])))
            first | refine wpSeq_call rfl (fun v1 g1 s1 K hK => ?_) | refine wpSeq_callG rfl rfl (fun v1 g1 s1 K hK => ?_)
            go_simp
            refine (tfold_any nz 3 (by omega) (by omega) v1).mono ?_
            rintro e y1 ⟨z1, rfl, ⟨e3, he3, rfl⟩, bb1⟩
            (try go_wp2_with fail)
            refine hK.out _ _ bb1 ?_
            clear hK K
            (try simp only [Act.put, List.setIfInBounds_toArray, List.set_cons_zero, List.set_cons_succ])
            repeat (first | (refine wpSeq_pure (v := ?_) rfl ?_ ?_; rotate_left 1; (focus (intro wq_ hSq_; (try dsimp only at hSq_); go_simp; (try with_reducible rfl); done)); (try simp only [Act.put, List.setIfInBounds_toArray, List.set_cons_zero, List.set_cons_succ])) | (refine wpSeq_pureG (v := ?_) rfl rfl ?_ ?_; rotate_left 1; (focus (intro wq_ hSq_; (try dsimp only at hSq_); go_simp; (try with_reducible rfl); done)); (try simp only [Act.put, List.setIfInBounds_toArray, List.set_cons_zero, List.set_cons_succ])) | (refine wpSeq_off rfl rfl ?_; (try simp only [Act.put, List.setIfInBounds_toArray, List.set_cons_zero, List.set_cons_succ])) | (refine wpSeq_offU rfl ?_; (try simp only [Act.put, List.setIfInBounds_toArray, List.set_cons_zero, List.set_cons_succ])))
            first | refine wpSeq_call rfl (fun v2 g2 s2 K hK => ?_) | refine wpSeq_callG rfl rfl (fun v2 g2 s2 K hK => ?_)
            go_simp
            refine (tfold_any _ q (by omega) (by omega) v2).mono ?_
            rintro e y2 ⟨z2, rfl, ⟨e4, he4, rfl⟩, bb2⟩
            (try go_wp2_with fail)
            refine hK.out _ _ bb2 ?_
            clear hK K
            (try simp only [Act.put, List.setIfInBounds_toArray, List.set_cons_zero, List.set_cons_succ])
            repeat (first | (refine wpSeq_pure (v := ?_) rfl ?_ ?_; rotate_left 1; (focus (intro wq_ hSq_; (try dsimp only at hSq_); go_simp; (try with_reducible rfl); done)); (try simp only [Act.put, List.setIfInBounds_toArray, List.set_cons_zero, List.set_cons_succ])) | (refine wpSeq_pureG (v := ?_) rfl rfl ?_ ?_; rotate_left 1; (focus (intro wq_ hSq_; (try dsimp only at hSq_); go_simp; (try with_reducible rfl); done)); (try simp only [Act.put, List.setIfInBounds_toArray, List.set_cons_zero, List.set_cons_succ])) | (refine wpSeq_off rfl rfl ?_; (try simp only [Act.put, List.setIfInBounds_toArray, List.set_cons_zero, List.set_cons_succ])) | (refine wpSeq_offU rfl ?_; (try simp only [Act.put, List.setIfInBounds_toArray, List.set_cons_zero, List.set_cons_succ])))
            intro wv gv sv
            (try simp only [endJ, List.drop_succ_cons, List.drop_zero])
            have XV := Lib.hid (bt X10.out sv)
            have HOV := Lib.hid (HJ.out.2.1.below XV.out)
            have kG := HOV.out.at_ hx
            obtain ⟨_, eG, _, fG, _⟩ := HOV.out.cell (by omega)
            injection eG with eG
            injection eG with eG
            subst eG
            clear hst s1 g1 bb1 s2 g2 bb2 gv sv kz2 kw kD
            go_wp2_with fail
            have hblk : ∃ o, wv.heap[G]? = some o := by
              obtain ⟨cs, h⟩ := own_lt' (OwC.lower HOV.out (Nat.zero_le _)) (b := G) rfl
              exact ⟨_, h⟩
            obtain ⟨oG, hoG⟩ := hblk
            have hxG : Ext W (wv.setCell ⟨G, x, none⟩ (.int .i64 (e4 : Int))) := ((Chg.ext (X := fun b _ => W.heap.size ≤ b) (bt HJ.out.2.2.2.2 XV.out)).trans (Chg.set_ (p := ⟨G, x, none⟩) hoG (show W.heap.size ≤ G from HG.out) _)).below (fun b o h => h) (Nat.le_refl _)
            have hyl := HOV.out.len
            exact ⟨⟨j + 1, x :: ks, ys.set x (e4 : Int), by omega, by omega, by go_num, by rw [List.length_cons, HJ.out.1], OwC.set_ HOV.out x _, fun a ha => by
              rcases List.mem_or_eq_of_mem_set ha with h | h
              · exact HJ.out.2.2.1 a h
              · rw [h]; omega, fun x' hx' hn' => by
              have h1 : x' ≠ x := fun h => hn' (by rw [h]; exact List.mem_cons_self ..)
              have h2 : x' ∉ ks := fun h => hn' (List.mem_cons_of_mem _ h)
              unfold ro
              rw [getD_setL _ _ _ (by omega), if_neg h1]
              exact HJ.out.2.2.2.1 x' hx' h2, hxG⟩, by simp [intOf]; omega⟩
          · obtain rfl : t = j := by omega
            go_wp2_with fail
            refine (rRead_any (P := P) (t := t) HQ.out W3 (HJ.out.2.1.lower (Nat.zero_le _)) HJ.out.2.2.1 (by omega) HT.out.2.symm hPq (ks := ks) (by have := HJ.out.1; omega) (by omega) (by omega) HJ.out.2.2.2.1).mono ?_
            rintro e w10 ⟨z, rfl, ⟨A10, c10, n10, hn10, rfl, o10⟩, b10⟩
            obtain ⟨R, rfl⟩ := o10.some_ (by omega)
            have H10 := Lib.hid (And.intro (HL.out.ext b10) o10)
            have hv0 := hv_zero (q := (q : Int)) (d0 := (d0 : Int)) (d1 := (d1 : Int)) (by omega) (by omega)
            clear b10 o10 kD
            go_wp2_with fail
            have HVV := Lib.hid (rValue_any (n := 2) (x := 0) HQ.out (by omega) w10 H10.out.2.rv rfl (by omega) HDR.out)
            rw [hv0] at HVV
            refine HVV.out.mono ?_
            rintro e w11 ⟨z, rfl, rfl, b11⟩
            have H11 := Lib.hid (And.intro (H10.out.1.ext b11) (H10.out.2.below b11))
            have pn10 : (n10 : Int) ≤ (t : Int) := by omega
            clear b11 HVV hv0
            have kk1 : ∀ w', Ext w11 w' → w'.cell? ⟨R, 0, none⟩ = some (.int .i64 (d0 : Int)) := fun w' hh => (H11.out.2.below hh).at_ (j := 0) (by omega)
            have kk2 : ∀ w', Ext w11 w' → w'.cell? ⟨R, 1, none⟩ = some (.int .i64 (d1 : Int)) := fun w' hh => (H11.out.2.below hh).at_ (j := 1) (by omega)
            have kk3 : ∀ w', Ext w11 w' → w'.cell? ⟨E, 0, none⟩ = some (.int .i64 (d0 : Int)) := fun w' hh => (H11.out.1.dg.below hh).at_ (j := 0) (by omega)
            have kk4 : ∀ w', Ext w11 w' → w'.cell? ⟨E, 1, none⟩ = some (.int .i64 (d1 : Int)) := fun w' hh => (H11.out.1.dg.below hh).at_ (j := 1) (by omega)
            have kk5 : ∀ w', Ext w11 w' → w'.cell? ⟨D, 2, none⟩ = some (.int .i64 (P : Int)) := fun w' hh => by
              have := (H11.out.1.md.below hh).cells
              simp only [cellsAre, Nat.zero_add, Nat.reduceAdd, and_true] at this
              exact this.2.2
            go_upto_region 23 with fail
            have hst : Ext w11 w11.drew := Ext.drew _
            refine wp_region_adv 42 [] [(0, true, some 173, none), (1, true, some 174, none), (2, true, some 175, none), (3, true, some 176, some (175, true)), (4, true, some 177, some (175, true)), (5, true, some 178, none), (6, true, some 179, none), (7, true, some 180, some (179, true)), (8, true, some 181, some (179, true)), (9, true, some 182, some (179, true)), (10, true, some 183, none), (11, true, some 184, none), (12, true, some 185, some (184, true)), (13, true, some 186, some (184, true)), (14, true, some 187, some (184, true)), (15, true, some 188, some (184, true)), (16, true, some 189, some (184, true)), (17, true, some 190, some (184, true)), (18, true, some 191, some (184, true)), (19, true, some 192, none), (20, true, some 193, none), (21, true, some 194, some (193, true)), (22, true, some 195, some (193, true)), (23, true, some 196, some (193, true)), (24, true, some 197, some (193, true)), (25, true, some 198, some (193, true)), (26, true, some 199, some (193, true)), (27, true, some 200, some (193, true)), (28, true, some 201, none), (29, true, some 202, none), (30, true, some 203, some (202, true)), (31, true, some 204, some (202, true)), (32, true, some 205, some (202, true)), (33, true, some 206, some (202, true)), (34, true, some 207, some (202, true)), (35, true, some 208, some (202, true)), (36, true, some 209, none), (37, true, some 210, none), (38, true, some 211, some (210, true)), (39, true, some 212, some (210, true)), (40, true, some 213, some (210, true)), (41, true, some 214, some (210, true))] (by kernel_rfl) (by kernel_rfl) (by kernel_rfl) (by intro it hit; (repeat (rcases List.mem_cons.1 hit with rfl | hit; (focus (intro o ho ev w; injection ho with ho; subst ho; kernel_rfl)))); cases hit) (fun _ _ _ _ _ => ⟨fun h => h, fun h => h⟩) hst ?_
            repeat (first | (refine wpSeq_pure (v := ?_) rfl ?_ ?_; rotate_left 1; (focus (intro wq_ hSq_; (try dsimp only at hSq_); go_simp; (try with_reducible rfl); done)); (try simp only [Act.put, List.setIfInBounds_toArray, List.set_cons_zero, List.set_cons_succ])) | (refine wpSeq_pureG (v := ?_) rfl rfl ?_ ?_; rotate_left 1; (focus (intro wq_ hSq_; (try dsimp only at hSq_); go_simp; (try with_reducible rfl); done)); (try simp only [Act.put, List.setIfInBounds_toArray, List.set_cons_zero, List.set_cons_succ])) | (refine wpSeq_off rfl rfl ?_; (try simp only [Act.put, List.setIfInBounds_toArray, List.set_cons_zero, List.set_cons_succ])) | (refine wpSeq_offU rfl ?_; (try simp only [Act.put, List.setIfInBounds_toArray, List.set_cons_zero, List.set_cons_succ])))
            intro wz gz sz
            (try simp only [endJ, List.drop_succ_cons, List.drop_zero])
            have XF := Lib.hid (bt H11.out.1.ex sz)
            clear hst gz sz kk1 kk2 kk3 kk4 kk5
            go_wp2_with fail
            go_returns
            exact ⟨_, rfl, rfl, XF.out⟩
        · obtain rfl : n = j := by omega
          go_wp2_with fail
          refine (rRead_any (P := P) (t := t) HQ.out W3 (HJ.out.2.1.lower (Nat.zero_le _)) HJ.out.2.2.1 (by omega) HT.out.2.symm hPq (ks := ks) (by have := HJ.out.1; omega) (by omega) (by omega) HJ.out.2.2.2.1).mono ?_
          rintro e w10 ⟨z, rfl, ⟨A10, c10, n10, hn10, rfl, o10⟩, b10⟩
          obtain ⟨R, rfl⟩ := o10.some_ (by omega)
          have H10 := Lib.hid (And.intro (HL.out.ext b10) o10)
          have hv0 := hv_zero (q := (q : Int)) (d0 := (d0 : Int)) (d1 := (d1 : Int)) (by omega) (by omega)
          clear b10 o10 kD
          go_wp2_with fail
          have HVV := Lib.hid (rValue_any (n := 2) (x := 0) HQ.out (by omega) w10 H10.out.2.rv rfl (by omega) HDR.out)
          rw [hv0] at HVV
          refine HVV.out.mono ?_
          rintro e w11 ⟨z, rfl, rfl, b11⟩
          have H11 := Lib.hid (And.intro (H10.out.1.ext b11) (H10.out.2.below b11))
          have pn10 : (n10 : Int) ≤ (t : Int) := by omega
          clear b11 HVV hv0
          have kk1 : ∀ w', Ext w11 w' → w'.cell? ⟨R, 0, none⟩ = some (.int .i64 (d0 : Int)) := fun w' hh => (H11.out.2.below hh).at_ (j := 0) (by omega)
          have kk2 : ∀ w', Ext w11 w' → w'.cell? ⟨R, 1, none⟩ = some (.int .i64 (d1 : Int)) := fun w' hh => (H11.out.2.below hh).at_ (j := 1) (by omega)
          have kk3 : ∀ w', Ext w11 w' → w'.cell? ⟨E, 0, none⟩ = some (.int .i64 (d0 : Int)) := fun w' hh => (H11.out.1.dg.below hh).at_ (j := 0) (by omega)
          have kk4 : ∀ w', Ext w11 w' → w'.cell? ⟨E, 1, none⟩ = some (.int .i64 (d1 : Int)) := fun w' hh => (H11.out.1.dg.below hh).at_ (j := 1) (by omega)
          have kk5 : ∀ w', Ext w11 w' → w'.cell? ⟨D, 2, none⟩ = some (.int .i64 (P : Int)) := fun w' hh => by
            have := (H11.out.1.md.below hh).cells
            simp only [cellsAre, Nat.zero_add, Nat.reduceAdd, and_true] at this
            exact this.2.2
          go_upto_region 23 with fail
          have hst : Ext w11 w11.drew := Ext.drew _
          refine wp_region_adv 42 [] [(0, true, some 173, none), (1, true, some 174, none), (2, true, some 175, none), (3, true, some 176, some (175, true)), (4, true, some 177, some (175, true)), (5, true, some 178, none), (6, true, some 179, none), (7, true, some 180, some (179, true)), (8, true, some 181, some (179, true)), (9, true, some 182, some (179, true)), (10, true, some 183, none), (11, true, some 184, none), (12, true, some 185, some (184, true)), (13, true, some 186, some (184, true)), (14, true, some 187, some (184, true)), (15, true, some 188, some (184, true)), (16, true, some 189, some (184, true)), (17, true, some 190, some (184, true)), (18, true, some 191, some (184, true)), (19, true, some 192, none), (20, true, some 193, none), (21, true, some 194, some (193, true)), (22, true, some 195, some (193, true)), (23, true, some 196, some (193, true)), (24, true, some 197, some (193, true)), (25, true, some 198, some (193, true)), (26, true, some 199, some (193, true)), (27, true, some 200, some (193, true)), (28, true, some 201, none), (29, true, some 202, none), (30, true, some 203, some (202, true)), (31, true, some 204, some (202, true)), (32, true, some 205, some (202, true)), (33, true, some 206, some (202, true)), (34, true, some 207, some (202, true)), (35, true, some 208, some (202, true)), (36, true, some 209, none), (37, true, some 210, none), (38, true, some 211, some (210, true)), (39, true, some 212, some (210, true)), (40, true, some 213, some (210, true)), (41, true, some 214, some (210, true))] (by kernel_rfl) (by kernel_rfl) (by kernel_rfl) (by intro it hit; (repeat (rcases List.mem_cons.1 hit with rfl | hit; (focus (intro o ho ev w; injection ho with ho; subst ho; kernel_rfl)))); cases hit) (fun _ _ _ _ _ => ⟨fun h => h, fun h => h⟩) hst ?_
          repeat (first | (refine wpSeq_pure (v := ?_) rfl ?_ ?_; rotate_left 1; (focus (intro wq_ hSq_; (try dsimp only at hSq_); go_simp; (try with_reducible rfl); done)); (try simp only [Act.put, List.setIfInBounds_toArray, List.set_cons_zero, List.set_cons_succ])) | (refine wpSeq_pureG (v := ?_) rfl rfl ?_ ?_; rotate_left 1; (focus (intro wq_ hSq_; (try dsimp only at hSq_); go_simp; (try with_reducible rfl); done)); (try simp only [Act.put, List.setIfInBounds_toArray, List.set_cons_zero, List.set_cons_succ])) | (refine wpSeq_off rfl rfl ?_; (try simp only [Act.put, List.setIfInBounds_toArray, List.set_cons_zero, List.set_cons_succ])) | (refine wpSeq_offU rfl ?_; (try simp only [Act.put, List.setIfInBounds_toArray, List.set_cons_zero, List.set_cons_succ])))
          intro wz gz sz
          (try simp only [endJ, List.drop_succ_cons, List.drop_zero])
          have XF := Lib.hid (bt H11.out.1.ex sz)
          clear hst gz sz kk1 kk2 kk3 kk4 kk5
          go_wp2_with fail
          go_returns
          exact ⟨_, rfl, rfl, XF.out⟩
end Go.Proofs.Tb
