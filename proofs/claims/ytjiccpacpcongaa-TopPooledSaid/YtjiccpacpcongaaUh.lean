/- Contract of divided. -/
import Derived.Test.YtjiccpacpcongaaUg
set_option linter.unusedVariables false
set_option linter.unusedSimpArgs false
namespace Go.Proofs.Tb
open Go.RowKit Go.Lib
attribute [local go_sem] cell_set_same

theorem OwC.other {base : Nat} {w : World} {b' n c : Nat} {l : List Int} (h : OwC base w (.slice (some ⟨b', 0, none⟩) n c) l) {b : Nat} (hb : b ≠ b') (i : Nat) (u : Value) : OwC base (w.setCell ⟨b, i, none⟩ u) (.slice (some ⟨b', 0, none⟩) n c) l :=
  own_keep h fun g cs hg _ hb' => by
    injection hg with hg
    subst hg
    exact Below.heap_setCell w ⟨b, i, none⟩ u _ (Ne.symm hb)
/-- What the division goes through: the rests, the quotient's elements. -/
structure DvP (q : Int) (t : Nat) (b : List Int) (pls : Nat → List Int) (ds : Nat → Int) : Prop where
  ln : ∀ j, j ≤ 2 → (pls j).length = t + 2
  rg : ∀ j, j ≤ 2 → ∀ k, k < t + 2 → 0 ≤ ro (pls j) k ∧ ro (pls j) k < q
  bl : b.length = t + 1
  br : ∀ k, k < t + 1 → 0 ≤ ro b k ∧ ro b k < q
  dr : ∀ j, j < 2 → 0 ≤ ds j ∧ ds j < q
  at_ : ∀ j, j < 2 → ro (pls (j + 1)) (j + t) = ds j
  st : ∀ j, j < 2 → pls j = sbR q (pls (j + 1)) b (ds j) j (t + 1)
  fin : pls 0 = List.replicate (t + 2) 0
theorem sbR_in {q : Int} (hq : 0 < q) {p b : List Int} {c : Int} {i m : Nat} {n : Nat} (hl : p.length = n) (h : ∀ k, k < n → 0 ≤ ro p k ∧ ro p k < q) : ∀ k, k < n → 0 ≤ ro (sbR q p b c i m) k ∧ ro (sbR q p b c i m) k < q := fun k hk => by
  rw [sbR_at _ _ _ _ _ _ (by omega)]
  split
  · exact ⟨Int.emod_nonneg _ (by omega), Int.emod_lt_of_pos _ hq⟩
  · exact h k hk
theorem DvP.mk' {q : Int} (hq : 1 < q) {t : Nat} {p b : List Int} {d0 d1 : Int} (h0 : 0 ≤ d0 ∧ d0 < q) (h1 : 0 ≤ d1 ∧ d1 < q) (hpl : p.length = t + 2) (hpr : ∀ k, k < t + 2 → 0 ≤ ro p k ∧ ro p k < q) (hbl : b.length = t + 1) (hbr : ∀ k, k < t + 1 → 0 ≤ ro b k ∧ ro b k < q) (e1 : ro p (t + 1) = d1) (e2 : ro (sbR q p b d1 1 (t + 1)) t = d0) (e3 : ∀ k, k < t + 2 → ro (sbR q (sbR q p b d1 1 (t + 1)) b d0 0 (t + 1)) k = 0) :
    DvP q t b (fun j => if j = 2 then p else if j = 1 then sbR q p b d1 1 (t + 1) else sbR q (sbR q p b d1 1 (t + 1)) b d0 0 (t + 1)) (fun j => if j = 1 then d1 else d0) := by
  have hq0 : 0 < q := by omega
  have r1 := sbR_in (b := b) (c := d1) (i := 1) (m := t + 1) hq0 hpl hpr
  have l1 : (sbR q p b d1 1 (t + 1)).length = t + 2 := by rw [sbR_len]; exact hpl
  have r0 := sbR_in (b := b) (c := d0) (i := 0) (m := t + 1) hq0 l1 r1
  have l0 : (sbR q (sbR q p b d1 1 (t + 1)) b d0 0 (t + 1)).length = t + 2 := by rw [sbR_len]; exact l1
  refine ⟨fun j hj => ?_, fun j hj k hk => ?_, hbl, hbr, fun j hj => ?_, fun j hj => ?_, fun j hj => ?_, ?_⟩
  · obtain rfl | rfl | rfl : j = 0 ∨ j = 1 ∨ j = 2 := by omega
    · exact l0
    · exact l1
    · exact hpl
  · obtain rfl | rfl | rfl : j = 0 ∨ j = 1 ∨ j = 2 := by omega
    · exact r0 k hk
    · exact r1 k hk
    · exact hpr k hk
  · obtain rfl | rfl : j = 0 ∨ j = 1 := by omega
    · exact h0
    · exact h1
  · obtain rfl | rfl : j = 0 ∨ j = 1 := by omega
    · simpa using e2
    · simpa [Nat.add_comm 1 t] using e1
  · obtain rfl | rfl : j = 0 ∨ j = 1 := by omega
    · rfl
    · rfl
  · exact list_ro (by rw [List.length_replicate]; exact l0) fun k hk => by
      have hk2 : k < t + 2 := by rw [← l0]; exact hk
      have h9 : ro (List.replicate (t + 2) 0) k = 0 := by unfold ro; rw [List.getD_eq_getElem?_getD, List.getElem?_replicate, if_pos hk2]; rfl
      rw [h9]
      exact e3 k hk2
/-- The quotient when the places from j on are made. -/
def qlS (ds : Nat → Int) (j : Nat) : List Int := (List.range 2).map fun k => if j ≤ k then ds k else 0
theorem qlS_set (ds : Nat → Int) {j : Nat} (hj : j < 2) : (qlS ds (j + 1)).set j (ds j) = qlS ds j := by
  obtain rfl | rfl : j = 0 ∨ j = 1 := by omega
  · rfl
  · rfl
theorem qlS_at (ds : Nat → Int) {j : Nat} (hj : j < 2) : ro (qlS ds j) j = ds j := by
  unfold qlS
  rw [ro_range _ _ hj, if_pos (Nat.le_refl _)]
set_option maxHeartbeats 6400000 in
set_option maxRecDepth 100000 in
theorem rdivided_any {q t : Nat} (hq : 5 ≤ q) (hq2 : q ≤ 13) (ht : t ≤ 100) {b : List Int} {pls : Nat → List Int} {ds : Nat → Int} (hd : DvP (q : Int) t b pls ds) {pb po pc bb bo bc n1 n2 : Nat} (hn1 : t + 1 = n1) (hn2 : t + 2 = n2) (w : World) (hp : Rv w 1 (some ⟨pb, po, none⟩) n2 pc (ci (pls 2))) (hb : Rv w 1 (some ⟨bb, bo, none⟩) n1 bc (ci b)) :
    Calls Try.prog 28 #[.int .i64 (q : Int), .slice (some ⟨pb, po, none⟩) n2 pc, .slice (some ⟨bb, bo, none⟩) n1 bc] w (Ret (fun z w' => ∃ z1, z = .tuple #[z1, .bool true] ∧ OwC w.heap.size w' z1 (qlS ds 0)) w) := by
  have HD := Lib.hid hd
  have HP := Lib.hid hp
  have HBR := Lib.hid hb
  have hple := hp.le
  have hpcp := hp.cap
  have hble := hb.le
  have hbcp := hb.cap
  have HN := Lib.hid (And.intro hn1 hn2)
  have hnb : n2 ≤ 102 ∧ n1 + 1 = n2 := by omega
  obtain ⟨hn3, hn4⟩ := hnb
  have e1 : (n2 : Int) - (n1 : Int) = 1 := by omega
  have e2 : max (0 : Int) 2 = 2 := by decide
  clear hd hp hb hn1 hn2 hn4
  go_enter Try.func28, Try.ntmps28
  go_wp2_with fail
  refine (rclone_any n2 pc pb po (pls 2) w HP.out (by omega) (by rw [HD.out.ln 2 (by omega), HN.out.2])).mono ?_
  rintro e w1 ⟨v1, rfl, o1, b1⟩
  obtain ⟨A1, c1, ev, _⟩ := o1.form
  rw [HD.out.ln 2 (by omega), HN.out.2] at ev
  subst ev
  obtain ⟨w2, hmk, o2, x2⟩ := make_full 2 w1 w.heap.size (Ext.size b1) (by omega)
  have hmk2 : (Instr.makeSlice TLI (.int .i64 2) (.int .i64 2)).run Try.prog w1 = .ok (.slice (some ⟨w1.heap.size, 0, none⟩) 2 2) w2 := hmk
  obtain ⟨P1, cc1, ef⟩ := own_form0 o1 (by rw [HD.out.ln 2 (by omega)]; omega)
  injection ef with ef1 ef2 ef3
  subst ef1 ef3
  clear ef2
  obtain ⟨Q1, hQ1⟩ : ∃ Q1, w1.heap.size = Q1 := ⟨_, rfl⟩
  rw [hQ1] at hmk2 o2
  have HPQ := Lib.hid (show P1 ≠ Q1 ∧ w.heap.size ≤ P1 ∧ w.heap.size ≤ Q1 from by
    have h1 := own_lt o1 P1 rfl
    have h2 := own_geE o1 P1 rfl
    omega)
  have HO := Lib.hid (And.intro (o1.below x2) (And.intro (show OwC w.heap.size w2 (.slice (some ⟨Q1, 0, none⟩) 2 2) (qlS ds 2) from o2) (bt b1 x2)))
  have hc1 := o1.rv.le
  have hcc1 := o1.rv.cap
  clear hmk o1 o2 b1 x2 hQ1
  go_wp2_with fail
  go_loopw [9] (fun i wr => ∃ j : Nat, j ≤ 2 ∧ i = .int .i64 ((j : Int) - 1) ∧ OwC w.heap.size wr (.slice (some ⟨P1, 0, none⟩) n2 c1) (pls j) ∧ OwC w.heap.size wr (.slice (some ⟨Q1, 0, none⟩) 2 2) (qlS ds j) ∧ Ext w wr) (fun i _ => (intOf i + 1).toNat)
  case atStart => exact ⟨2, by omega, rfl, HO.out.1, HO.out.2.1, HO.out.2.2⟩
  case round =>
    clear HO
    obtain ⟨jj, hjj, rfl, hop, hoq, hx⟩ := hrel
    have HOP := Lib.hid hop
    have HOQ := Lib.hid hoq
    have HX := Lib.hid hx
    clear hop hoq hx
    obtain ⟨W, rfl⟩ : ∃ W, W = wr := ⟨_, rfl⟩
    by_cases hj0 : 0 < jj
    · obtain ⟨j, rfl⟩ : ∃ j, jj = j + 1 := ⟨jj - 1, by omega⟩
      obtain ⟨ji, hji⟩ : ∃ ji : Int, ((j + 1 : Nat) : Int) - 1 = ji := ⟨_, rfl⟩
      have eji : ji = (j : Int) := by omega
      subst eji
      rw [hji]
      clear hji
      have hj2 : j < 2 := by omega
      have pj : 0 ≤ (j : Int) := by omega
      have pj2 : (j : Int) < 2 := by omega
      have wj : IntKind.i64.wrap ((j : Int) - 1) = (j : Int) - 1 := by rw [IntWalk.i64_in _ (by omega)]
      have w5 : IntKind.i64.wrap ((j : Int) + (n1 : Int) - 1) = ((j + t : Nat) : Int) := by have := HN.out.1; rw [IntWalk.i64_in _ (by omega)]; omega
      have p5 : ((j + t : Nat) : Int) < (n2 : Int) := by have := HN.out.2; omega
      obtain ⟨b5, e5, _, hf5, hc5⟩ := HOP.out.cell (by have := HN.out.2; omega)
      injection e5 with e5
      injection e5 with e5
      subst e5
      obtain ⟨b6, e6, _, hf6, hc6⟩ := HOQ.out.cell (by omega)
      injection e6 with e6
      injection e6 with e6
      subst e6
      have k5 := hc5 (j + t) (by have := HN.out.2; omega)
      rw [HD.out.at_ j hj2] at k5
      have k6 := hc6 j hj2
      have f6 := hf6 j
      obtain ⟨jt, hjt⟩ : ∃ jt, j + t = jt := ⟨_, rfl⟩
      rw [hjt] at w5 p5 k5
      clear hc5 hc6 hf5 hf6 hjt
      go_upto_region 7 with fail
      have HOQ2 := Lib.hid (show OwC w.heap.size (W.setCell ⟨Q1, j, none⟩ (.int .i64 (ds j))) (.slice (some ⟨Q1, 0, none⟩) 2 2) (qlS ds j) from by rw [← qlS_set ds hj2]; exact HOQ.out.set_ j _)
      have HOP2 := Lib.hid (HOP.out.other (Ne.symm HPQ.out.1) j (.int .i64 (ds j)))
      have HX2 := Lib.hid (show Ext w (W.setCell ⟨Q1, j, none⟩ (.int .i64 (ds j))) from HX.out.setCell (p := ⟨Q1, j, none⟩) HPQ.out.2.2 _)
      obtain ⟨W2, hW2⟩ : ∃ W2, W.setCell ⟨Q1, j, none⟩ (.int .i64 (ds j)) = W2 := ⟨_, rfl⟩
      rw [hW2] at HOQ2 HOP2 HX2 ⊢
      clear hW2 k5 k6 f6 HOQ HOP HX
      go_wp2_with fail
      go_loopw [42] (fun i wr => ∃ m : Nat, m ≤ n1 ∧ i = .int .i64 (m : Int) ∧ OwC w.heap.size wr (.slice (some ⟨P1, 0, none⟩) n2 c1) (sbR (q : Int) (pls (j + 1)) b (ds j) j m) ∧ OwC w.heap.size wr (.slice (some ⟨Q1, 0, none⟩) 2 2) (qlS ds j) ∧ Ext w wr) (fun i _ => n1 - (intOf i).toNat)
      case atStart => exact ⟨0, Nat.zero_le _, rfl, by rw [sbR_zero]; exact HOP2.out, HOQ2.out, HX2.out⟩
      case round =>
        clear HOQ2 HOP2 HX2
        obtain ⟨m, hm, rfl, hop, hoq, hx⟩ := hrel
        have HOP := Lib.hid hop
        have HOQ := Lib.hid hoq
        have HX := Lib.hid hx
        clear hop hoq hx
        obtain ⟨W3, rfl⟩ : ∃ W3, W3 = wr := ⟨_, rfl⟩
        by_cases hmn : m < n1
        · have pm : (m : Int) < (n1 : Int) := by omega
          have wm : IntKind.i64.wrap ((m : Int) + 1) = ((m + 1 : Nat) : Int) := by rw [IntWalk.i64_in _ (by omega)]; rfl
          have hjm : j + m < n2 := by have := HN.out; omega
          obtain ⟨jm, hjm_⟩ : ∃ jm, j + m = jm := ⟨_, rfl⟩
          have wjm : IntKind.i64.wrap ((j : Int) + (m : Int)) = (jm : Int) := by rw [IntWalk.i64_in _ (by omega), ← hjm_]; rfl
          rw [hjm_] at hjm
          have pjm : (jm : Int) < (n2 : Int) := by omega
          have hb1 := HD.out.bl
          have hmb : m < b.length := by have := HN.out.1; omega
          obtain ⟨b', o', e', hcb⟩ := HBR.out.at_ (by omega)
          injection e' with e'
          injection e' with e1' e2'
          subst e1' e2'
          have kb := ext_cell HX.out (hcb m _ (ci_at hmb))
          obtain ⟨b5, e5, _, hf5, hc5⟩ := HOP.out.cell (by omega)
          injection e5 with e5
          injection e5 with e5
          subst e5
          obtain ⟨b6, e6, _, _, hc6⟩ := HOQ.out.cell (by omega)
          injection e6 with e6
          injection e6 with e6
          subst e6
          have k5 := hc5 jm hjm
          have k6 := hc6 j hj2
          rw [qlS_at ds hj2] at k6
          have hr5 := sbR_in (q := (q : Int)) (by omega) (HD.out.ln (j + 1) (by omega)) (HD.out.rg (j + 1) (by omega)) (b := b) (c := ds j) (i := j) (m := m) jm (by have := HN.out.2; omega)
          have hrb := HD.out.br m (by have := HN.out.1; omega)
          have hrd := HD.out.dr j hj2
          have hss := sbR_succ (q : Int) (pls (j + 1)) b (ds j) j m (by rw [HD.out.ln (j + 1) (by omega)]; have := HN.out.2; omega)
          rw [hjm_] at hss
          obtain ⟨x, hx⟩ : ∃ x, ro (sbR (q : Int) (pls (j + 1)) b (ds j) j m) jm = x := ⟨_, rfl⟩
          obtain ⟨y, hy⟩ : ∃ y, ro b m = y := ⟨_, rfl⟩
          obtain ⟨dj, hdj⟩ : ∃ dj, ds j = dj := ⟨_, rfl⟩
          rw [hy] at kb hrb hss
          rw [hx] at k5 hr5 hss
          rw [hdj] at k6 hrd
          have HSS := Lib.hid (And.intro hss hdj)
          have HMUL := Lib.hid (fun w' => rmul_any (q := q) (by omega) (by omega) hrd hrb w')
          have HSUB := Lib.hid (fun w' => rsub_any (q := q) (by omega) (by omega) hr5 (b := dj * y % (q : Int)) ⟨Int.emod_nonneg _ (by omega), Int.emod_lt_of_pos _ (by omega)⟩ w')
          have kk5 := fun w' (hh : Ext W3 w') => ext_cell hh k5
          have kk6 := fun w' (hh : Ext W3 w') => ext_cell hh k6
          clear hcb hc5 hc6 hf5 hr5 hrb hrd hss hx hy hdj hb1 hmb
          go_upto_region 10 with fail
          have hst : Ext W3 W3.drew := Ext.drew _
          clear k5 k6 kb
          refine wp_region_adv 19 [] [(0, true, some 47, none), (1, true, some 48, none), (2, true, some 49, none), (3, true, some 50, none), (4, true, some 51, none), (5, true, some 52, none), (6, true, some 53, none), (7, true, some 54, none), (8, true, some 55, none), (9, true, some 56, none), (10, true, some 57, none), (11, true, some 58, none), (12, true, some 59, none), (13, true, some 60, none), (14, true, some 61, none), (15, true, some 62, none), (16, true, some 63, none), (17, false, some 64, none), (18, false, some 65, none)] (by kernel_rfl) (by kernel_rfl) (by kernel_rfl) (by intro it hit; (repeat (rcases List.mem_cons.1 hit with rfl | hit; (focus (intro o ho ev w; injection ho with ho; subst ho; kernel_rfl)))); cases hit) (fun _ _ _ _ _ => ⟨fun h => h, fun h => h⟩) hst ?_
          repeat (first | (refine wpSeq_pure (v := ?_) rfl ?_ ?_; rotate_left 1; (focus (intro wq_ hSq_; (try dsimp only at hSq_); go_simp; (try with_reducible rfl); done)); (try simp only [Act.put, List.setIfInBounds_toArray, List.set_cons_zero, List.set_cons_succ])) | (refine wpSeq_pureG (v := ?_) rfl rfl ?_ ?_; rotate_left 1; (focus (intro wq_ hSq_; (try dsimp only at hSq_); go_simp; (try with_reducible rfl); done)); (try simp only [Act.put, List.setIfInBounds_toArray, List.set_cons_zero, List.set_cons_succ])) | (refine wpSeq_off rfl rfl ?_; (try simp only [Act.put, List.setIfInBounds_toArray, List.set_cons_zero, List.set_cons_succ])) | (refine wpSeq_offU rfl ?_; (try simp only [Act.put, List.setIfInBounds_toArray, List.set_cons_zero, List.set_cons_succ])))
          first | refine wpSeq_call rfl (fun v1 g1 s1 K hK => ?_) | refine wpSeq_callG rfl rfl (fun v1 g1 s1 K hK => ?_)
          go_simp
          refine (HMUL.out v1).mono ?_
          rintro e y1 ⟨z1, rfl, rfl, bb1⟩
          (try go_wp2_with fail)
          refine hK.out _ _ bb1 ?_
          clear hK K
          (try simp only [Act.put, List.setIfInBounds_toArray, List.set_cons_zero, List.set_cons_succ])
          repeat (first | (refine wpSeq_pure (v := ?_) rfl ?_ ?_; rotate_left 1; (focus (intro wq_ hSq_; (try dsimp only at hSq_); go_simp; (try with_reducible rfl); done)); (try simp only [Act.put, List.setIfInBounds_toArray, List.set_cons_zero, List.set_cons_succ])) | (refine wpSeq_pureG (v := ?_) rfl rfl ?_ ?_; rotate_left 1; (focus (intro wq_ hSq_; (try dsimp only at hSq_); go_simp; (try with_reducible rfl); done)); (try simp only [Act.put, List.setIfInBounds_toArray, List.set_cons_zero, List.set_cons_succ])) | (refine wpSeq_off rfl rfl ?_; (try simp only [Act.put, List.setIfInBounds_toArray, List.set_cons_zero, List.set_cons_succ])) | (refine wpSeq_offU rfl ?_; (try simp only [Act.put, List.setIfInBounds_toArray, List.set_cons_zero, List.set_cons_succ])))
          first | refine wpSeq_call rfl (fun v2 g2 s2 K hK => ?_) | refine wpSeq_callG rfl rfl (fun v2 g2 s2 K hK => ?_)
          go_simp
          refine (HSUB.out v2).mono ?_
          rintro e y2 ⟨z2, rfl, rfl, bb2⟩
          (try go_wp2_with fail)
          refine hK.out _ _ bb2 ?_
          clear hK K
          (try simp only [Act.put, List.setIfInBounds_toArray, List.set_cons_zero, List.set_cons_succ])
          repeat (first | (refine wpSeq_pure (v := ?_) rfl ?_ ?_; rotate_left 1; (focus (intro wq_ hSq_; (try dsimp only at hSq_); go_simp; (try with_reducible rfl); done)); (try simp only [Act.put, List.setIfInBounds_toArray, List.set_cons_zero, List.set_cons_succ])) | (refine wpSeq_pureG (v := ?_) rfl rfl ?_ ?_; rotate_left 1; (focus (intro wq_ hSq_; (try dsimp only at hSq_); go_simp; (try with_reducible rfl); done)); (try simp only [Act.put, List.setIfInBounds_toArray, List.set_cons_zero, List.set_cons_succ])) | (refine wpSeq_off rfl rfl ?_; (try simp only [Act.put, List.setIfInBounds_toArray, List.set_cons_zero, List.set_cons_succ])) | (refine wpSeq_offU rfl ?_; (try simp only [Act.put, List.setIfInBounds_toArray, List.set_cons_zero, List.set_cons_succ])))
          intro wz gz sz
          (try simp only [endJ, List.drop_succ_cons, List.drop_zero])
          have HOPz := Lib.hid (HOP.out.below sz)
          have HOQz := Lib.hid (HOQ.out.below sz)
          have HXz := Lib.hid (bt HX.out sz)
          obtain ⟨b5, e5, _, hf5, hc5⟩ := HOPz.out.cell (by omega)
          injection e5 with e5
          injection e5 with e5
          subst e5
          have k5 := hc5 jm hjm
          have f5 := hf5 jm
          have HEQ := Lib.hid (show (x - dj * y % (q : Int) + (q : Int)) % (q : Int) = (x - dj * y) % (q : Int) from by simp)
          clear kk5 kk6 hst s1 g1 bb1 s2 g2 bb2 sz gz hf5 hc5 HMUL HSUB HOP HOQ HX
          go_wp2_with fail
          have h1 := HOPz.out.set_ jm ((x - dj * y) % (q : Int))
          rw [← HEQ.out, ← HSS.out.2, ← HSS.out.1, HSS.out.2, HEQ.out] at h1
          exact ⟨⟨m + 1, by omega, by go_num, by rw [HSS.out.2]; exact h1, HOQz.out.other HPQ.out.1 jm _, HXz.out.setCell (p := ⟨P1, jm, none⟩) HPQ.out.2.1 _⟩, by simp [intOf]; omega⟩
        · obtain rfl : m = n1 := by omega
          have hst := HD.out.st j hj2
          rw [HN.out.1] at hst
          rw [← hst] at HOP
          clear hst
          go_wp2_with fail
          exact ⟨⟨j, by omega, rfl, HOP.out, HOQ.out, HX.out⟩, by simp [intOf]⟩
    · obtain rfl : jj = 0 := by omega
      have hz := HD.out.fin
      rw [HN.out.2] at hz
      have hpz := HOP.out.rv
      rw [hz] at hpz
      have HCT := Lib.hid (rcontains_any n2 c1 P1 0 W hpz (by omega))
      clear hz hpz
      go_wp2_with fail
      refine HCT.out.mono ?_
      rintro e w9 ⟨z9, rfl, rfl, b9⟩
      have HX9 := Lib.hid (And.intro (HOQ.out.below b9) (bt HX.out b9))
      clear b9
      go_wp2_with fail
      go_returns
      exact ⟨_, rfl, ⟨_, rfl, HX9.out.1⟩, HX9.out.2⟩
end Go.Proofs.Tb
