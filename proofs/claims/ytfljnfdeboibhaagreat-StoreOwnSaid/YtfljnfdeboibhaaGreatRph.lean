/- StoreOwn: the walk. -/
import Derived.Test.YtfljnfdeboibhaaGreatRpe
import Derived.Test.YtfljnfdeboibhaaGreatRos
import Derived.Test.YtfljnfdeboibhaaGreatSzc
set_option linter.unusedVariables false
set_option linter.unusedSimpArgs false
namespace Go.Proofs.Tb
open Go.Maps Go.RowKit Go.Lib
attribute [local go_sem] cell_set_same neqMapL

/-- A row that may be written over: what its cells hold is of one kind, and it lies behind a world. -/
def WrI (Wb W : World) (A : Option Addr) (n k : Nat) (T : TypeId) (P : Value → Prop) : Prop :=
  Ext Wb W ∧ (0 < n → ∃ g, A = some ⟨g, 0, none⟩ ∧ Wb.heap.size ≤ g ∧ ∃ cs, Blk W g T cs ∧ n * k ≤ cs.size ∧ ∀ i, i < n * k → ∃ v, cs[i]? = some v ∧ P v)
theorem WrI.of {Wb W : World} {A : Option Addr} {n c k : Nat} {T : TypeId} {xs : List Value} {P : Value → Prop} (h : W.ownsRow Wb.heap.size T k (.slice A n c) n xs) (hx : Ext Wb W) (hP : ∀ u ∈ xs, P u) : WrI Wb W A n k T P := by
  refine ⟨hx, fun h0 => ?_⟩
  rcases h.2 with ⟨_, hz⟩ | ⟨g, cap, cur, e, hg, hb, h1, h2, h3, h4⟩
  · omega
  · injection e with e
    have hnk : n * k ≤ cap * k := Nat.mul_le_mul_right k h1
    refine ⟨g, e, hg, cur, hb, by omega, fun i hi => ?_⟩
    have hc : i < cur.size := by omega
    refine ⟨cur[i], Array.getElem?_eq_getElem hc, hP _ ?_⟩
    rw [← h4]
    have : (cur.toList.take (n * k))[i]? = some cur[i] := by rw [List.getElem?_take, if_pos hi]; simp [hc]
    exact List.mem_of_getElem? this
theorem WrI.at_ {Wb W : World} {g n k : Nat} {T : TypeId} {P : Value → Prop} (h : WrI Wb W (some ⟨g, 0, none⟩) n k T P) {i : Nat} (hi : i < n * k) : ∃ v, W.cell? ⟨g, i, none⟩ = some v ∧ P v := by
  have h0 : 0 < n := by
    rcases Nat.eq_zero_or_pos n with h | h
    · subst h; simp at hi
    · exact h
  obtain ⟨g', e, _, cs, hb, hs, hc⟩ := h.2 h0
  injection e with e
  injection e with e
  subst e
  obtain ⟨v, hv, hp⟩ := hc i hi
  exact ⟨v, by rw [cell_of_row _ _ i cs T (0, 0) hb]; exact hv, hp⟩
theorem WrI.free {Wb W : World} {g n k : Nat} {T : TypeId} {P : Value → Prop} (h : WrI Wb W (some ⟨g, 0, none⟩) n k T P) (h0 : 0 < n) (i : Nat) : W.frozen? ⟨g, i, none⟩ = false := by
  obtain ⟨g', e, _, cs, hb, hs, hc⟩ := h.2 h0
  injection e with e
  injection e with e
  subst e
  exact hb.free i
theorem WrI.set_ {Wb W : World} {g n k : Nat} {T : TypeId} {P : Value → Prop} (h : WrI Wb W (some ⟨g, 0, none⟩) n k T P) (h0 : 0 < n) (i : Nat) {u : Value} (hu : P u) : WrI Wb (W.setCell ⟨g, i, none⟩ u) (some ⟨g, 0, none⟩) n k T P := by
  obtain ⟨g', e, hg, cs, hb, hs, hc⟩ := h.2 h0
  injection e with e
  injection e with e
  subst e
  refine ⟨h.1.setCell (p := ⟨g, i, none⟩) hg _, fun _ => ⟨g, rfl, hg, cs.setIfInBounds i u, hb.set_ i u, by simpa using hs, fun j hj => ?_⟩⟩
  obtain ⟨v, hv, hp⟩ := hc j hj
  by_cases e : i = j
  · subst e
    have hlt := (Array.getElem?_eq_some_iff.1 hv).1
    exact ⟨u, by rw [Array.getElem?_setIfInBounds, if_pos rfl, if_pos hlt], hu⟩
  · exact ⟨v, by rw [Array.getElem?_setIfInBounds, if_neg e]; exact hv, hp⟩
def IsU8 (v : Value) : Prop := ∃ x : Int, v = .int .u8 x
set_option maxHeartbeats 12800000 in
set_option maxRecDepth 100000 in
theorem rown_any (A : Option Addr) (nx cx : Nat) (w : World) (h : OpX w A nx cx) :
    Calls Tryz.prog 9 #[.slice A nx cx] w (Ret (fun z _ => z = .bool true) w) := by
  have hle := h.le
  have hcp := h.cap
  have HX := Lib.hid h
  clear h
  go_enter Tryz.func9, Tryz.ntmps9
  go_wp2_with fail
  refine (rfilled_any A nx cx 8 1 (by omega) (by omega) w HX.out).mono ?_
  rintro e w1 ⟨v1, rfl, ⟨s, d, rv, Vs, rfl, hs, hr, hl1, hl2⟩, b1⟩
  obtain ⟨A1, m1, c1, rfl, hh1⟩ := hr.form
  clear hh1
  have HS1 := Lib.hid hs
  have HR1 := Lib.hid hr
  have X1 := Lib.hid b1
  have HL2 := Lib.hid hl2
  have hVp := STx.pos hs
  clear hs hr b1 hl2
  go_upto_region 2 with fail
  have x2 : Ext w1 (w1.alloc (.cells #[.slice A1 m1 c1, .int .i64 ((1 : Nat) : Int)] TRS)) := Ext.allocR _ _
  refine wp_world (fun W => STl (fun b => w.heap.size ≤ b) W s d 1 1536 Vs 0 ∧ RbX W w1.heap.size Vs 1 ∧ Ext w W) ⟨HS1.out.ext x2, ⟨A1, m1, c1, HR1.out.ext x2, Blk.new_ _ _ rfl⟩, bt X1.out x2⟩ ?_
  obtain ⟨H, hH⟩ : ∃ H, w1.heap.size = H := ⟨_, rfl⟩
  rw [hH]
  rintro W2 ⟨hs2, hr2, hx2⟩
  have HS2 := Lib.hid hs2
  have HR2 := Lib.hid hr2
  have X2 := Lib.hid hx2
  clear x2 hs2 hr2 hx2 HS1 HR1 X1 hH
  go_wp2_with fail
  refine (rlives_any W2).mono ?_
  rintro e w3 ⟨v3, rfl, rfl, b3⟩
  have HS3 := Lib.hid (HS2.out.ext b3)
  have HR3 := Lib.hid (HR2.out.ext b3)
  have X3 := Lib.hid (bt X2.out b3)
  clear b3 HS2 HR2 X2
  obtain ⟨N, hN⟩ : ∃ N, Vs.length - 1 = N := ⟨_, rfl⟩
  obtain ⟨O, hO⟩ : ∃ O, Vs.length - 1 - 1 = O := ⟨_, rfl⟩
  have HNN := Lib.hid (show ((Vs.length : Int) - 1) = (N : Int) by omega)
  have HOO := Lib.hid (show ((Vs.length - 1 - 1 : Nat) : Int) = (O : Int) by omega)
  have HVN := Lib.hid (show Vs.length = N + 1 ∧ N - O ≤ 1 ∧ O ≤ N by omega)
  clear hN hO
  obtain ⟨A3, m3, c3, hr3, hk3⟩ := HR3.out
  have R3 := Lib.hid hr3
  have k3 := hk3.cells
  simp only [cellsAre, Nat.zero_add, Nat.reduceAdd, and_true] at k3
  clear hr3 hk3
  go_wp2_with fail
  refine (znewest_any R3.out (by omega)).mono ?_
  rintro e w4 ⟨v4, rfl, rfl, b4⟩
  rw [HNN.out]
  have HS4 := Lib.hid (HS3.out.ext b4)
  have HR4 := Lib.hid (HR3.out.ext b4)
  have X4 := Lib.hid (bt X3.out b4)
  clear b4 HS3 HR3 X3 R3 k3
  go_wp2_with fail
  refine (st_range_any HS4.out (by omega) (v := N) (by have := HVN.out; omega) (by have := HVN.out; omega) (fun x hx => by have := HL2.out x hx; omega) ⟨#[]⟩ ⟨#[]⟩ 100 (by omega) (by decide)).mono ?_
  rintro e w5 ⟨v5, rfl, ⟨z5, rfl, ho5⟩, b5⟩
  unfold ansR
  obtain ⟨A5, c5, rfl, r5⟩ := ho5.rv
  obtain ⟨n5, hn5⟩ : ∃ n5, (rngP (Vs.getD N []) ⟨#[]⟩ ⟨#[]⟩ 100).length = n5 := ⟨_, rfl⟩
  have hn5m : n5 ≤ 100 := by rw [← hn5]; unfold rngP; rw [List.length_take]; omega
  have hw5 := WrI.of (P := fun _ => True) ho5 (show Ext w4 w5 from b5) (fun _ _ => trivial)
  rw [hn5] at hw5
  have hc5 := r5.le
  have hc5' := r5.cap
  rw [hn5] at hc5 ⊢
  have HW5 := Lib.hid hw5
  clear b5 ho5 r5 hn5 hw5
  go_wp2_with fail
  go_loopw [8] (fun i wr => ∃ j : Nat, j ≤ n5 ∧ i = .int .i64 (j : Int) ∧ WrI w4 wr A5 n5 2 TPA (fun _ => True)) (fun i _ => n5 - (intOf i).toNat)
  case atStart => exact ⟨0, by omega, rfl, HW5.out⟩
  case round =>
    obtain ⟨j, hj, rfl, hx⟩ := hrel
    have HI := Lib.hid hx
    clear HW5
    by_cases hjn : j < n5
    · have pj : (j : Int) < (n5 : Int) := by omega
      have wj : IntKind.i64.wrap ((j : Int) + 1) = ((j + 1 : Nat) : Int) := by rw [IntWalk.i64_in _ (by omega)]; rfl
      obtain ⟨g, rfl, hg⟩ := hx.2 (by omega)
      obtain ⟨u1, hu1, _⟩ := HI.out.at_ (i := j * 2) (by omega)
      obtain ⟨u2, hu2, _⟩ := HI.out.at_ (i := j * 2 + 1) (by omega)
      have f1 := HI.out.free (by omega)
      clear hx hg
      go_wp2_with fail
      exact ⟨⟨j + 1, by omega, by go_num, (HI.out.set_ (by omega) (j * 2) trivial).set_ (by omega) (j * 2 + 1) trivial⟩, by simp [intOf]; omega⟩
    · obtain rfl : j = n5 := by omega
      have HS6 := Lib.hid (HS4.out.ext HI.out.1)
      have HR6 := Lib.hid (HR4.out.ext HI.out.1)
      have X6 := Lib.hid (bt X4.out HI.out.1)
      clear hx HI HS4 HR4 X4
      obtain ⟨A6, m6, c6, hr6, hk6⟩ := HR6.out
      have R6 := Lib.hid hr6
      have K6 := Lib.hid hk6
      have kk := fun w' (hh : Ext wr w') => (K6.out.below hh).cells
      simp only [cellsAre, Nat.zero_add, Nat.reduceAdd, and_true] at kk
      have hst : Ext wr wr.drew := Ext.drew _
      clear hr6 hk6
      go_upto_region 9 with fail
      refine wp_region_adv 10 [] [(0, true, some 47, none), (1, true, some 48, none), (3, true, some 50, none), (2, false, some 49, none), (4, false, some 51, none), (5, false, some 52, none), (6, true, some 46, none), (7, true, some 53, none), (8, true, some 54, none), (9, false, some 9, none)] (by kernel_rfl) (by kernel_rfl) (by kernel_rfl) (by intro it hit; (repeat (rcases List.mem_cons.1 hit with rfl | hit; (focus (intro o ho ev w; injection ho with ho; subst ho; kernel_rfl)))); cases hit) (fun _ _ _ _ _ => ⟨fun h => h, fun h => h⟩) hst ?_
      repeat (first | (refine wpSeq_pure (v := ?_) rfl ?_ ?_; rotate_left 1; (focus (intro wq_ hSq_; (try dsimp only at hSq_); go_simp; (try with_reducible rfl); done)); (try simp only [Act.put, List.setIfInBounds_toArray, List.set_cons_zero, List.set_cons_succ])) | (refine wpSeq_pureG (v := ?_) rfl rfl ?_ ?_; rotate_left 1; (focus (intro wq_ hSq_; (try dsimp only at hSq_); go_simp; (try with_reducible rfl); done)); (try simp only [Act.put, List.setIfInBounds_toArray, List.set_cons_zero, List.set_cons_succ])) | (refine wpSeq_off rfl rfl ?_; (try simp only [Act.put, List.setIfInBounds_toArray, List.set_cons_zero, List.set_cons_succ])) | (refine wpSeq_offU rfl ?_; (try simp only [Act.put, List.setIfInBounds_toArray, List.set_cons_zero, List.set_cons_succ])))
      first | refine wpSeq_call rfl (fun u1 g1 s1 K hK => ?_) | refine wpSeq_callG rfl rfl (fun u1 g1 s1 K hK => ?_)
      go_simp
      refine (zoldest_any (R6.out.ext s1) (by omega) (by omega)).mono ?_
      rintro e y1 ⟨z1, rfl, rfl, b1⟩
      rw [HOO.out]
      (try go_wp2_with fail)
      refine hK.out _ _ b1 ?_
      clear hK K
      (try simp only [Act.put, List.setIfInBounds_toArray, List.set_cons_zero, List.set_cons_succ])
      repeat (first | (refine wpSeq_pure (v := ?_) rfl ?_ ?_; rotate_left 1; (focus (intro wq_ hSq_; (try dsimp only at hSq_); go_simp; (try with_reducible rfl); done)); (try simp only [Act.put, List.setIfInBounds_toArray, List.set_cons_zero, List.set_cons_succ])) | (refine wpSeq_pureG (v := ?_) rfl rfl ?_ ?_; rotate_left 1; (focus (intro wq_ hSq_; (try dsimp only at hSq_); go_simp; (try with_reducible rfl); done)); (try simp only [Act.put, List.setIfInBounds_toArray, List.set_cons_zero, List.set_cons_succ])) | (refine wpSeq_off rfl rfl ?_; (try simp only [Act.put, List.setIfInBounds_toArray, List.set_cons_zero, List.set_cons_succ])) | (refine wpSeq_offU rfl ?_; (try simp only [Act.put, List.setIfInBounds_toArray, List.set_cons_zero, List.set_cons_succ])))
      first | refine wpSeq_call rfl (fun u2 g2 s2 K hK => ?_) | refine wpSeq_callG rfl rfl (fun u2 g2 s2 K hK => ?_)
      go_simp
      refine (znewest_any (R6.out.ext s2) (by omega)).mono ?_
      rintro e y2 ⟨z2, rfl, rfl, b2⟩
      rw [HNN.out]
      (try go_wp2_with fail)
      refine hK.out _ _ b2 ?_
      clear hK K
      (try simp only [Act.put, List.setIfInBounds_toArray, List.set_cons_zero, List.set_cons_succ])
      repeat (first | (refine wpSeq_pure (v := ?_) rfl ?_ ?_; rotate_left 1; (focus (intro wq_ hSq_; (try dsimp only at hSq_); go_simp; (try with_reducible rfl); done)); (try simp only [Act.put, List.setIfInBounds_toArray, List.set_cons_zero, List.set_cons_succ])) | (refine wpSeq_pureG (v := ?_) rfl rfl ?_ ?_; rotate_left 1; (focus (intro wq_ hSq_; (try dsimp only at hSq_); go_simp; (try with_reducible rfl); done)); (try simp only [Act.put, List.setIfInBounds_toArray, List.set_cons_zero, List.set_cons_succ])) | (refine wpSeq_off rfl rfl ?_; (try simp only [Act.put, List.setIfInBounds_toArray, List.set_cons_zero, List.set_cons_succ])) | (refine wpSeq_offU rfl ?_; (try simp only [Act.put, List.setIfInBounds_toArray, List.set_cons_zero, List.set_cons_succ])))
      first | refine wpSeq_call rfl (fun u3 g3 s3 K hK => ?_) | refine wpSeq_callG rfl rfl (fun u3 g3 s3 K hK => ?_)
      go_simp
      refine (st_diff_ok (HS6.out.ext s3) (by omega) (a := O) (b := N) (by have := HVN.out; omega) (by have := HVN.out; omega) (by have := HVN.out; omega) (by have := HVN.out; omega) (fun x hx => by have := HL2.out x hx; omega)).mono ?_
      rintro e y3 ⟨z3, rfl, ⟨z7, l, rfl, hdf, ho7⟩, b3⟩
      unfold ansR
      obtain ⟨A7, c7, rfl, r7⟩ := ho7.rv
      (try go_wp2_with fail)
      refine hK.out _ _ b3 ?_
      clear hK K
      (try simp only [Act.put, List.setIfInBounds_toArray, List.set_cons_zero, List.set_cons_succ])
      repeat (first | (refine wpSeq_pure (v := ?_) rfl ?_ ?_; rotate_left 1; (focus (intro wq_ hSq_; (try dsimp only at hSq_); go_simp; (try with_reducible rfl); done)); (try simp only [Act.put, List.setIfInBounds_toArray, List.set_cons_zero, List.set_cons_succ])) | (refine wpSeq_pureG (v := ?_) rfl rfl ?_ ?_; rotate_left 1; (focus (intro wq_ hSq_; (try dsimp only at hSq_); go_simp; (try with_reducible rfl); done)); (try simp only [Act.put, List.setIfInBounds_toArray, List.set_cons_zero, List.set_cons_succ])) | (refine wpSeq_off rfl rfl ?_; (try simp only [Act.put, List.setIfInBounds_toArray, List.set_cons_zero, List.set_cons_succ])) | (refine wpSeq_offU rfl ?_; (try simp only [Act.put, List.setIfInBounds_toArray, List.set_cons_zero, List.set_cons_succ])))
      first | refine wpSeq_call rfl (fun u4 g4 s4 K hK => ?_) | refine wpSeq_callG rfl rfl (fun u4 g4 s4 K hK => ?_)
      go_simp
      (try go_wp2_with fail)
      refine hK.out _ _ (Ext.refl _) ?_
      clear hK K
      (try simp only [Act.put, List.setIfInBounds_toArray, List.set_cons_zero, List.set_cons_succ])
      repeat (first | (refine wpSeq_pure (v := ?_) rfl ?_ ?_; rotate_left 1; (focus (intro wq_ hSq_; (try dsimp only at hSq_); go_simp; (try with_reducible rfl); done)); (try simp only [Act.put, List.setIfInBounds_toArray, List.set_cons_zero, List.set_cons_succ])) | (refine wpSeq_pureG (v := ?_) rfl rfl ?_ ?_; rotate_left 1; (focus (intro wq_ hSq_; (try dsimp only at hSq_); go_simp; (try with_reducible rfl); done)); (try simp only [Act.put, List.setIfInBounds_toArray, List.set_cons_zero, List.set_cons_succ])) | (refine wpSeq_off rfl rfl ?_; (try simp only [Act.put, List.setIfInBounds_toArray, List.set_cons_zero, List.set_cons_succ])) | (refine wpSeq_offU rfl ?_; (try simp only [Act.put, List.setIfInBounds_toArray, List.set_cons_zero, List.set_cons_succ])))
      intro w7 g7 s7
      (try simp only [endJ, List.drop_succ_cons, List.drop_zero])
      obtain ⟨n7, hn7⟩ : ∃ n7, l.length = n7 := ⟨_, rfl⟩
      have hn7m : n7 ≤ 720 := by
        have h1 := hdf.len
        have h2 : (Vs.getD O []).length ≤ 360 := by rw [List.getD_eq_getElem?_getD, List.getElem?_eq_getElem (by have := HVN.out; omega)]; exact HL2.out _ (List.getElem_mem _)
        have h3 : (Vs.getD N []).length ≤ 360 := by rw [List.getD_eq_getElem?_getD, List.getElem?_eq_getElem (by have := HVN.out; omega)]; exact HL2.out _ (List.getElem_mem _)
        omega
      have hw7 := WrI.of (P := fun _ => True) (own_below ho7 (bt g4 g7)) (show Ext u3 w7 from bt b3 (bt g4 g7)) (fun _ _ => trivial)
      rw [hn7] at hw7
      have hc7 := r7.le
      have hc7' := r7.cap
      rw [hn7] at hc7 ⊢
      have HW7 := Lib.hid hw7
      have HS7 := Lib.hid (HS6.out.ext s3)
      have HR7 := Lib.hid (HR6.out.ext s3)
      have X7 := Lib.hid (bt X6.out s3)
      clear hst g1 s1 b1 g2 s2 b2 g3 s3 b3 g4 s4 g7 s7 kk hdf ho7 r7 hn7 hw7 HS6 HR6 X6 R6 K6
      go_wp2_with fail
      go_loopw [11] (fun i wr => ∃ j : Nat, j ≤ n7 ∧ i = .int .i64 (j : Int) ∧ WrI u3 wr A7 n7 3 TCG (fun _ => True)) (fun i _ => n7 - (intOf i).toNat)
      case atStart => exact ⟨0, by omega, rfl, HW7.out⟩
      case round =>
        obtain ⟨q, hq, rfl, hx⟩ := hrel
        have HI := Lib.hid hx
        clear HW7
        by_cases hqn : q < n7
        · have pq : (q : Int) < (n7 : Int) := by omega
          have wq : IntKind.i64.wrap ((q : Int) + 1) = ((q + 1 : Nat) : Int) := by rw [IntWalk.i64_in _ (by omega)]; rfl
          obtain ⟨g, rfl, hg⟩ := hx.2 (by omega)
          obtain ⟨v1, hu1, _⟩ := HI.out.at_ (i := q * 3) (by omega)
          obtain ⟨v2, hu2, _⟩ := HI.out.at_ (i := q * 3 + 1) (by omega)
          obtain ⟨v3, hu3, _⟩ := HI.out.at_ (i := q * 3 + 2) (by omega)
          have f1 := HI.out.free (by omega)
          clear hx hg
          go_wp2_with fail
          exact ⟨⟨q + 1, by omega, by go_num, ((HI.out.set_ (by omega) (q * 3) trivial).set_ (by omega) (q * 3 + 1) trivial).set_ (by omega) (q * 3 + 2) trivial⟩, by simp [intOf]; omega⟩
        · obtain rfl : q = n7 := by omega
          have HS8 := Lib.hid (HS7.out.ext HI.out.1)
          have HR8 := Lib.hid (HR7.out.ext HI.out.1)
          have X8 := Lib.hid (bt X7.out HI.out.1)
          clear hx HI HS7 HR7 X7
          obtain ⟨bl, hdw, hsdd, hone, hbl⟩ := HS8.out.disk
          go_wp2_with fail
          refine (rread_ok hdw (k := 0) (by omega)).mono ?_
          rintro e w9 ⟨v9, rfl, ⟨A9, c9, rfl, ho9⟩, b9⟩
          have hw9 := WrI.of (P := IsU8) (show World.ownsRow _ _ TU8 1 (.slice A9 64 c9) 64 _ by
            have h1 := ho9
            unfold OwB at h1
            obtain ⟨A', c', e, r⟩ := own_rv h1
            injection e with _ e _
            rw [← e] at h1
            exact h1) (show Ext _ w9 from b9) (fun u hu => by
            unfold bc at hu
            obtain ⟨x, _, rfl⟩ := List.mem_map.1 hu
            exact ⟨_, rfl⟩)
          have hc9 : 64 ≤ c9 := by
            obtain ⟨A', c', e, r⟩ := own_rv ho9
            injection e with _ e e3
            have h1 := r.le
            omega
          have hc9' : c9 ≤ 9223372036854775807 := by
            obtain ⟨A', c', e, r⟩ := own_rv ho9
            injection e with _ e e3
            have h1 := r.cap
            omega
          have HW9 := Lib.hid hw9
          clear hdw hsdd hone hbl ho9 b9 hw9
          go_wp2_with fail
          go_loopw [14] (fun i wv => ∃ j : Nat, j ≤ 64 ∧ i = .int .i64 (j : Int) ∧ WrI wr wv A9 64 1 TU8 IsU8) (fun i _ => 64 - (intOf i).toNat)
          case atStart => exact ⟨0, by omega, rfl, HW9.out⟩
          case round =>
            obtain ⟨y, hy, rfl, hx⟩ := hrel
            have HI := Lib.hid hx
            clear HW9
            by_cases hyn : y < 64
            · have py : (y : Int) < 64 := by omega
              have wy : IntKind.i64.wrap ((y : Int) + 1) = ((y + 1 : Nat) : Int) := by rw [IntWalk.i64_in _ (by omega)]; rfl
              obtain ⟨g, rfl, hg⟩ := hx.2 (by omega)
              obtain ⟨_, hu1, ⟨ux, rfl⟩⟩ := HI.out.at_ (i := y) (by omega)
              have f1 := HI.out.free (by omega)
              clear hx hg
              go_wp2_with fail
              exact ⟨⟨y + 1, by omega, by go_num, HI.out.set_ (by omega) y ⟨_, rfl⟩⟩, by simp [intOf]; omega⟩
            · obtain rfl : y = 64 := by omega
              have HSa := Lib.hid (HS8.out.ext HI.out.1)
              have HRa := Lib.hid (HR8.out.ext HI.out.1)
              have Xa := Lib.hid (bt X8.out HI.out.1)
              clear hx HI HS8 HR8 X8
              go_wp2_with fail
              refine (dks_clone HSa.out.disk (by omega) fun b hb => Nat.le_trans Xa.out.size hb).mono ?_
              rintro e wb ⟨vb, rfl, ⟨d2, rfl, hdb⟩, bb⟩
              have HDb := Lib.hid hdb
              have HSb := Lib.hid (HSa.out.ext bb)
              have HRb := Lib.hid (HRa.out.ext bb)
              have Xb := Lib.hid (bt Xa.out bb)
              clear bb hdb HSa HRa Xa
              go_wp2_with fail
              refine (dks_open HDb.out (fun b hb => Nat.le_trans Xb.out.size hb) (by omega) (by omega) (fun x hx => by have := HL2.out x hx; omega) 0 (by omega)).mono ?_
              rintro e wc ⟨vc, rfl, ⟨s2, rfl, hsc⟩, bc_⟩
              have HCc := Lib.hid hsc
              have HSc := Lib.hid (HSb.out.ext bc_)
              have HRc := Lib.hid (HRb.out.ext bc_)
              have Xc := Lib.hid (bt Xb.out bc_)
              clear bc_ hsc HDb HSb HRb Xb
              obtain ⟨Ac, mc, cc, hrc, hkc⟩ := HRc.out
              have kc := hkc.cells
              simp only [cellsAre, Nat.zero_add, Nat.reduceAdd, and_true] at kc
              have HVc := Lib.hid hrc
              have HKc := Lib.hid hkc
              clear hrc hkc HRc
              go_wp2_with fail
              refine (stl_alike HSc.out HVc.out (by omega) (by omega) (fun x hx => by have := HL2.out x hx; omega)).mono ?_
              rintro e wd ⟨vd, rfl, rfl, bd⟩
              have HCd := Lib.hid (HCc.out.ext bd)
              have HVd := Lib.hid (HVc.out.ext bd)
              have Xd := Lib.hid (bt Xc.out bd)
              have kd := (HKc.out.below bd).cells
              simp only [cellsAre, Nat.zero_add, Nat.reduceAdd, and_true] at kd
              clear bd HSc HCc HVc Xc kc HKc
              go_wp2_with fail
              refine (stl_alike HCd.out HVd.out (by omega) (by omega) (fun x hx => by have := HL2.out x hx; omega)).mono ?_
              rintro e we ⟨ve, rfl, rfl, be⟩
              have Xe := Lib.hid (bt Xd.out be)
              clear be HCd HVd Xd kd
              go_wp2_with fail
              (try simp only [Exit.inBlock, Exit.then])
              refine bodyPost_ret (v := (.bool true)) (by simp [results, Tryz.results9, go_sem, *]) rfl ?_
              exact ⟨_, rfl, rfl, Xe.out⟩
end Go.Proofs.Tb
