/- The law of disks: its beginning. -/
import Derived.Test.YtfljnfdeboibhaaRqr
set_option linter.unusedVariables false
set_option linter.unusedSimpArgs false
namespace Go.Proofs.Tb
open Go.Maps Go.RowKit Go.Lib
attribute [local go_sem] cell_set_same neqMapL

set_option maxHeartbeats 1600000 in
set_option maxRecDepth 100000 in
theorem rnewdisk_bad (k : Int) (hk : k < 8 ∨ 4096 < k) (w : World) : Calls Try.prog 23 #[.int .i64 k] w (Ret (fun z _ => z = .tuple #[.pointer none, .int .i64 1]) w) := by
  go_enter Try.func23, Try.ntmps23
  by_cases h0 : k < 8
  · clear hk
    go_wp2
    go_returns
    exact ⟨_, rfl, rfl, Below.refl _ _⟩
  · have h1 : 4096 < k := by omega
    clear hk
    go_wp2
    go_returns
    exact ⟨_, rfl, rfl, Below.refl _ _⟩
def rdT (s : DkT) (k : Int) : Int × List Nat := if s.dn = true then (9, []) else if k < 0 ∨ (s.bl.length : Int) ≤ k then (1, []) else (0, (s.bl.getD k.toNat []).getLastD z64)
theorem sb_nil : sb [] = ⟨#[]⟩ := rfl
theorem conv_nil (W : World) (c : Nat) : Sem.run Try.prog (convert TBY 9 (.slice none 0 c)) W = .ok (.string (sb [])) W := run_convert_bytes_nil (P := Try.prog) W TBY TU8 Try.underlying44 Try.underlying5 0 c 9 Try.underlying9
theorem conv_own {base : Nat} {W : World} {A : Option Addr} {n c : Nat} {y : List Nat} (h : OwB base W (.slice A n c) y) (hn : 0 < n) : Sem.run Try.prog (convert TBY 9 (.slice A n c)) W = .ok (.string (sb y)) W := by
  have hlen := OwB.len64 h
  obtain ⟨b0, o0, rfl, hc0⟩ := (OwB.rv h).at_ hn
  exact run_convert_bytes_arg (P := Try.prog) W TBY TU8 Try.underlying44 Try.underlying5 b0 o0 n c (y.map fun (x : Nat) => (x : Int)) (by rw [List.length_map]; exact hlen) (fun i hi => hc0 i _ (by
    unfold bc
    rw [List.getElem?_map, List.getD_eq_getElem?_getD, List.getElem?_map, List.getElem?_eq_getElem (by omega)]
    rfl)) 9 Try.underlying9
theorem dw_read {F : Nat → Prop} {w : World} {d : Nat} {s : DkT} (hw : DW F w d s.bl s.dn s.lf) (h0 : 0 < s.bl.length) (k : Int) :
    Calls Try.prog 36 #[.pointer (some ⟨d, 0, none⟩), .int .i64 k] w (Ret (fun z w' => ∃ A n c, z = .tuple #[.slice A n c, .int .i64 (rdT s k).1] ∧ ∀ W, Ext w' W → Sem.run Try.prog (convert TBY 9 (.slice A n c)) W = .ok (.string (sb (rdT s k).2)) W) w) := by
  obtain ⟨bl, dn, lf⟩ := s
  unfold rdT
  cases dn with
  | true =>
    rw [if_pos rfl]
    refine (rread_dn hw k).mono ?_
    rintro e w' ⟨z, rfl, rfl, b⟩
    exact ⟨_, rfl, ⟨none, 0, 0, rfl, fun W _ => conv_nil W 0⟩, b⟩
  | false =>
    rw [if_neg Bool.false_ne_true]
    by_cases h2 : k < 0 ∨ (bl.length : Int) ≤ k
    · rw [if_pos h2]
      refine (rread_bad hw h0 k h2).mono ?_
      rintro e w' ⟨z, rfl, rfl, b⟩
      exact ⟨_, rfl, ⟨none, 0, 0, rfl, fun W _ => conv_nil W 0⟩, b⟩
    · rw [if_neg h2]
      have ek : k = (k.toNat : Int) := by omega
      have hkl : k.toNat < bl.length := by omega
      have := rread_ok hw hkl
      rw [← ek] at this
      refine this.mono ?_
      rintro e w' ⟨z, rfl, ⟨A, c, rfl, ho⟩, b⟩
      exact ⟨_, rfl, ⟨A, 64, c, rfl, fun W x => conv_own (own_below ho x) (by omega)⟩, b⟩
theorem rv_read {w : World} {v : Value} {s : DkT} (hw : RVs w v s) (h8 : s.bl.length ≤ 1000) (hne : ∀ k, k < s.bl.length → s.bl.getD k [] ≠ []) (hfew : FewB 100000 s.bl) (k : Int) :
    Calls Try.prog 37 #[v, .int .i64 k] w (Ret (fun z _ => z = .tuple #[.string (sb (rdT s k).2), .int .i64 (rdT s k).1]) w) := by
  obtain ⟨bl, dn, lf⟩ := s
  unfold rdT
  cases dn with
  | true =>
    rw [if_pos rfl]
    exact zread_dn hw k
  | false =>
    rw [if_neg Bool.false_ne_true]
    by_cases h2 : k < 0 ∨ (bl.length : Int) ≤ k
    · rw [if_pos h2]
      exact zread_bad hw k h2
    · rw [if_neg h2]
      have ek : k = (k.toNat : Int) := by omega
      have hkl : k.toNat < bl.length := by omega
      have := zread_ok hw hkl (Nat.le_trans h8 (by omega)) (hne _ hkl) (Nat.le_trans (hfew _) (by omega))
      rw [← ek] at this
      exact this
set_option maxHeartbeats 25600000 in
set_option maxRecDepth 100000 in
theorem rdisks_any (A : Option Addr) (nx cx : Nat) (size : Int) (w : World) (h : AcX w A nx cx) :
    Calls Try.prog 8 #[.slice A nx cx, .int .i64 size] w (Ret (fun z _ => z = .bool true) w) := by
  have HX := Lib.hid h
  have hle := h.le
  have hcp := h.cap
  clear h
  by_cases hbad : size < 8 ∨ 4096 < size
  · have HB := Lib.hid hbad
    go_enter Try.func8, Try.ntmps8
    clear hbad
    go_wp2_with fail
    refine (rnewdisk_bad size HB.out w).mono ?_
    rintro e w1 ⟨z1, rfl, rfl, b1⟩
    have X1 := Lib.hid (show Ext w w1 from b1)
    clear b1
    by_cases h0 : size < 8
    · go_wp2_with fail
      refine (rlives_any w1).mono ?_
      rintro e w2 ⟨z2, rfl, rfl, b2⟩
      have X2 := Lib.hid (bt X1.out b2)
      clear b2
      go_wp2_with fail
      go_returns
      exact ⟨_, rfl, rfl, X2.out⟩
    · have h1 : 4096 < size := by have := HB.out; omega
      go_wp2_with fail
      refine (rlives_any w1).mono ?_
      rintro e w2 ⟨z2, rfl, rfl, b2⟩
      have X2 := Lib.hid (bt X1.out b2)
      clear b2
      go_wp2_with fail
      go_returns
      exact ⟨_, rfl, rfl, X2.out⟩
  · obtain ⟨n, hn⟩ : ∃ n : Nat, size = (n : Int) := ⟨size.toNat, by omega⟩
    subst hn
    have hn8 : 8 ≤ n := by omega
    have hn4 : n ≤ 4096 := by omega
    have p1 : ¬ (n : Int) < 8 := by omega
    have p2 : ¬ 4096 < (n : Int) := by omega
    clear hbad
    go_enter Try.func8, Try.ntmps8
    go_wp2_with fail
    refine (rnewdisk_ok (F := fun _ => True) n hn8 hn4 w (fun _ _ => trivial)).mono ?_
    rintro e w1 ⟨z1, rfl, ⟨d0, rfl, hd0⟩, b1⟩
    obtain ⟨gb, mp, cap, hdk⟩ := hd0.len (by unfold newB; rw [List.length_replicate]; omega)
    have hbk := fun (W : World) (x : Ext w1 W) => rblocks_any d0 _ _ _ _ _ _ W (hdk.below x) (by unfold newB; rw [List.length_replicate]; omega)
    unfold newB at hbk
    rw [List.length_replicate] at hbk
    have HBK := Lib.hid hbk
    have X1 := Lib.hid (show Ext w w1 from b1)
    clear b1 hd0 hdk hbk
    go_wp2_with fail
    refine (HBK.out w1 (Ext.refl _)).mono ?_
    rintro e w2 ⟨z2, rfl, rfl, b2⟩
    have X2 := Lib.hid (bt X1.out b2)
    clear b2
    go_wp2_with fail
    refine (rlives_any w2).mono ?_
    rintro e w3 ⟨z3, rfl, rfl, b3⟩
    have X3 := Lib.hid (bt X2.out b3)
    have pm : min (n : Int) 8 = 8 := by omega
    clear b3 HBK
    go_upto_region 7 with fail
    go_wp2_with fail
    refine (rnewdisk_ok (F := fun b => w.heap.size ≤ b) 8 (by omega) (by omega) w3 (fun b hb => Nat.le_trans (Ext.size X3.out) hb)).mono ?_
    rintro e w4 ⟨z4, rfl, ⟨d, rfl, hd⟩, b4⟩
    have X4 := Lib.hid (bt X3.out b4)
    have HD := Lib.hid hd
    clear b4 hd
    go_wp2_with fail
    refine (znewdisk_any 8 (by omega) w4).mono ?_
    rintro e w5 ⟨z5, rfl, ⟨A5, n5, c5, a5, lf5, rfl, ho5, hl5⟩, b5⟩
    obtain rfl : a5 = false := (hl5 rfl).1
    have x6 : Ext w5 (w5.alloc (.cells #[.slice A5 n5 c5, .bool false, .bool false, .int .i64 lf5] TRD)) := Ext.allocR _ _
    have hd6 := (((HD.out.n.mono (N' := fun _ => True) (fun _ _ => trivial) (fun _ h => h)).old).ext b5).ext x6
    have K0 := Lib.hid (show DkS (fun _ => True) (fun b => w.heap.size ≤ b ∧ b < w4.heap.size) w (w5.alloc (.cells #[.slice A5 n5 c5, .bool false, .bool false, .int .i64 lf5] TRD)) w5.heap.size d 1 ⟨newB 8, false, 0⟩ ⟨newB 8, false, 0⟩ from
      ⟨bt (bt X4.out b5) x6, hd6, fun b hb => ⟨hb.1, Nat.lt_of_lt_of_le hb.2 (Ext.size (bt b5 x6))⟩, ⟨A5, n5, c5, false, lf5, Blk.new_ _ _ rfl, A5, n5, c5, false, lf5, rfl, ho5.ext x6, hl5⟩, Ext.size (bt X4.out b5), rfl, fun k => by
        unfold newB
        rw [List.getD_eq_getElem?_getD, List.getElem?_replicate]
        split <;> simp⟩)
    unfold rdk
    clear ho5 hl5 b5 x6 hd6 HD X4 X3 X2 X1
    go_upto_region 9 with fail
    obtain ⟨H, hH⟩ : ∃ H, w5.heap.size = H := ⟨_, rfl⟩
    obtain ⟨W6, hW6⟩ : ∃ W6, w5.alloc (.cells #[.slice A5 n5 c5, .bool false, .bool false, .int .i64 lf5] TRD) = W6 := ⟨_, rfl⟩
    rw [hH, hW6] at K0
    rw [hH, hW6]
    clear hH hW6
    go_wp2_with fail
    go_loopw [5, 8] (fun dv iv wr => ∃ (i d : Nat) (s : DkT) (F : Nat → Prop), i ≤ nx ∧ i ≤ 40 ∧ dv = .pointer (some ⟨d, 0, none⟩) ∧ iv = .int .i64 (i : Int) ∧ DkS (fun _ => True) F w wr H d (i + 1) s s) (fun _ i _ => nx - (intOf i).toNat)
    case atStart => exact ⟨0, d, _, _, by omega, by omega, rfl, rfl, K0.out⟩
    case round =>
      clear K0
      obtain ⟨i, d, s, F, hi, hi40, rfl, rfl, hk⟩ := hrel
      obtain ⟨W, rfl⟩ : ∃ W, W = wr := ⟨_, rfl⟩
      have HK := Lib.hid hk
      clear hk
      by_cases hin : i < nx
      · have pin : (i : Int) < (nx : Int) := by omega
        by_cases hi4 : i < 40
        · have pi4 : (i : Int) < 40 := by omega
          obtain ⟨b, o, rfl, kd, bk, A', n', c', hkd, hb1, hb2, k0, k1, k2, hby⟩ := HX.out.at_ i hin
          obtain ⟨ks, hrs, hks⟩ := hby.ex
          have hkl : ks.length = n' := by
            have := hrs.len
            unfold bc at this
            rw [List.length_map] at this
            omega
          have hnc := hrs.le
          have hcc := hrs.cap
          obtain ⟨m, hm⟩ : ∃ m, min n' 65 = m := ⟨_, rfl⟩
          have hm1 : m ≤ n' := by omega
          have hm2 : m ≤ 65 := by omega
          have pm1 : min (n' : Int) 65 = (m : Int) := by omega
          have pm2 : (m : Int) ≤ (c' : Int) := by omega
          have pm3 : ¬ (c' : Int) < (m : Int) := by omega
          have KC := Lib.hid (And.intro k0 (And.intro k1 k2))
          have HRS := Lib.hid (hrs.take hm1)
          have hkt : (ks.take m).length = m := by rw [List.length_take]; omega
          have hks2 : ∀ b ∈ ks.take m, b < 256 := fun b hb => hks b (List.mem_of_mem_take hb)
          obtain ⟨kt, hkt0⟩ : ∃ kt, ks.take m = kt := ⟨_, rfl⟩
          have hbt : (bc ks).take (m * 1) = bc kt := by rw [← hkt0, Nat.mul_one]; unfold bc; rw [List.map_take]
          rw [hbt] at HRS
          rw [hkt0] at hkt hks2
          have HKS := Lib.hid (And.intro hkt hks2)
          clear k0 k1 k2 hby hrs hks hkl hm hkt hks2 hkt0 hbt ks
          go_upto_region 12 with fail
          have kc := fun w' (hh : Ext W w') => ext_cell (bt HK.out.ex hh) KC.out.2.2
          have hst0 : Ext W W.drew := Ext.drew _
          refine wp_region_brn (S := (Ext W)) (by kernel_rfl) (by kernel_rfl) (fun _ _ _ _ _ => ⟨fun h => h, fun h => h⟩) ?_
          intro hsel_ hQ_
          obtain ⟨wd, hwd⟩ : ∃ wd, W.drew = wd := ⟨_, rfl⟩
          rw [hwd] at hst0 ⊢
          clear hwd
          refine wpB_chunk (f := 0) (L' := #[true, true, true, true, true, true, true, true, true, true, true, true, true, true, true, true]) hsel_ hQ_ [(1, true, some 73, none), (2, true, some 74, none), (3, true, some 75, none), (4, true, some 76, none), (5, true, some 77, none), (6, true, some 78, none), (7, true, some 79, none), (8, true, some 80, none), (9, true, some 81, none), (10, true, some 82, none), (11, true, some 83, none), (12, true, some 84, none), (13, true, some 85, none), (0, false, some 72, none), (14, false, some 86, none), (15, false, some 9, none)] _ _ _ (by kernel_rfl) hst0 ?_
          repeat (first | (refine wpSeqB_pure (v := ?_) rfl ?_ ?_; rotate_left 1; (focus (intro wq_ hSq_; (try dsimp only at hSq_); go_simp; (try with_reducible rfl); done)); (try simp only [Act.put, List.setIfInBounds_toArray, List.set_cons_zero, List.set_cons_succ])) | (refine wpSeqB_pureG (v := ?_) rfl rfl ?_ ?_; rotate_left 1; (focus (intro wq_ hSq_; (try dsimp only at hSq_); go_simp; (try with_reducible rfl); done)); (try simp only [Act.put, List.setIfInBounds_toArray, List.set_cons_zero, List.set_cons_succ])) | (refine wpSeqB_off rfl rfl ?_; (try simp only [Act.put, List.setIfInBounds_toArray, List.set_cons_zero, List.set_cons_succ])) | (refine wpSeqB_offU rfl ?_; (try simp only [Act.put, List.setIfInBounds_toArray, List.set_cons_zero, List.set_cons_succ])))
          first | refine wpSeqB_call rfl (fun K hK => ?_) | refine wpSeqB_callG rfl rfl (fun K hK => ?_)
          go_simp
          have x1 := bt hst0 (Ext.allocR wd (.cells #[] TU8))
          have o1 := OwB.empty wd
          obtain ⟨y1, hy1⟩ : ∃ y1, wd.alloc (.cells #[] TU8) = y1 := ⟨_, rfl⟩
          obtain ⟨P1, hP1⟩ : ∃ P1, wd.heap.size = P1 := ⟨_, rfl⟩
          rw [hy1, hP1] at o1
          rw [hy1] at x1
          rw [hy1, hP1]
          have hP2 : W.heap.size ≤ P1 := by rw [← hP1]; exact Ext.size hst0
          have O1 := Lib.hid (show OwB W.heap.size y1 (.slice (some ⟨P1, 0, none⟩) 0 0) [] from own_lower o1 hP2)
          clear o1 hy1 hP1
          refine hK.out _ _ x1 ?_
          clear hK K
          (try simp only [List.getElem_toArray, List.getElem_cons_succ, List.getElem_cons_zero, Act.put, List.setIfInBounds_toArray, List.set_cons_zero, List.set_cons_succ])
          repeat (first | (refine wpSeqB_pure (v := ?_) rfl ?_ ?_; rotate_left 1; (focus (intro wq_ hSq_; (try dsimp only at hSq_); go_simp; (try with_reducible rfl); done)); (try simp only [Act.put, List.setIfInBounds_toArray, List.set_cons_zero, List.set_cons_succ])) | (refine wpSeqB_pureG (v := ?_) rfl rfl ?_ ?_; rotate_left 1; (focus (intro wq_ hSq_; (try dsimp only at hSq_); go_simp; (try with_reducible rfl); done)); (try simp only [Act.put, List.setIfInBounds_toArray, List.set_cons_zero, List.set_cons_succ])) | (refine wpSeqB_off rfl rfl ?_; (try simp only [Act.put, List.setIfInBounds_toArray, List.set_cons_zero, List.set_cons_succ])) | (refine wpSeqB_offU rfl ?_; (try simp only [Act.put, List.setIfInBounds_toArray, List.set_cons_zero, List.set_cons_succ])))
          first | refine wpSeqB_call rfl (fun K hK => ?_) | refine wpSeqB_callG rfl rfl (fun K hK => ?_)
          refine wp_appU _ _ (by rfl) W.heap.size (.slice (some ⟨P1, 0, none⟩) 0 0) [] (by rfl) O1.out A' m c' kt (by rfl) (HRS.out.below (bt HK.out.ex x1)) (by simp) (by omega) (Ext.size x1) ?_
          intro A3 n3 c3 w3 o3 b3 g3
          have x3 : Ext W w3 := Below.trans x1 b3
          have hn3 : m = n3 := by
            have h5 := OwB.len64 o3
            rw [List.nil_append] at h5
            have h6 := HKS.out.1
            omega
          subst hn3
          have O3 := Lib.hid (show OwB W.heap.size w3 (.slice A3 m c3) kt from o3)
          clear o3 b3 g3
          refine hK.out _ _ x3 ?_
          clear hK K
          (try simp only [List.getElem_toArray, List.getElem_cons_succ, List.getElem_cons_zero, Act.put, List.setIfInBounds_toArray, List.set_cons_zero, List.set_cons_succ])
          repeat (first | (refine wpSeqB_pure (v := ?_) rfl ?_ ?_; rotate_left 1; (focus (intro wq_ hSq_; (try dsimp only at hSq_); go_simp; (try with_reducible rfl); done)); (try simp only [Act.put, List.setIfInBounds_toArray, List.set_cons_zero, List.set_cons_succ])) | (refine wpSeqB_pureG (v := ?_) rfl rfl ?_ ?_; rotate_left 1; (focus (intro wq_ hSq_; (try dsimp only at hSq_); go_simp; (try with_reducible rfl); done)); (try simp only [Act.put, List.setIfInBounds_toArray, List.set_cons_zero, List.set_cons_succ])) | (refine wpSeqB_off rfl rfl ?_; (try simp only [Act.put, List.setIfInBounds_toArray, List.set_cons_zero, List.set_cons_succ])) | (refine wpSeqB_offU rfl ?_; (try simp only [Act.put, List.setIfInBounds_toArray, List.set_cons_zero, List.set_cons_succ])))
          first | refine wpSeqB_call rfl (fun K hK => ?_) | refine wpSeqB_callG rfl rfl (fun K hK => ?_)
          go_simp
          refine hK.out _ _ x3 ?_
          clear hK K
          (try simp only [List.getElem_toArray, List.getElem_cons_succ, List.getElem_cons_zero, Act.put, List.setIfInBounds_toArray, List.set_cons_zero, List.set_cons_succ])
          repeat (first | (refine wpSeqB_pure (v := ?_) rfl ?_ ?_; rotate_left 1; (focus (intro wq_ hSq_; (try dsimp only at hSq_); go_simp; (try with_reducible rfl); done)); (try simp only [Act.put, List.setIfInBounds_toArray, List.set_cons_zero, List.set_cons_succ])) | (refine wpSeqB_pureG (v := ?_) rfl rfl ?_ ?_; rotate_left 1; (focus (intro wq_ hSq_; (try dsimp only at hSq_); go_simp; (try with_reducible rfl); done)); (try simp only [Act.put, List.setIfInBounds_toArray, List.set_cons_zero, List.set_cons_succ])) | (refine wpSeqB_off rfl rfl ?_; (try simp only [Act.put, List.setIfInBounds_toArray, List.set_cons_zero, List.set_cons_succ])) | (refine wpSeqB_offU rfl ?_; (try simp only [Act.put, List.setIfInBounds_toArray, List.set_cons_zero, List.set_cons_succ])))
          intro s_
          clear s_
          refine wpB_end (by kernel_rfl) ?_
          have X3 := Lib.hid x3
          clear x1 x3 hst0 kc hsel_ hQ_
          go_wp2_with fail
          refine (rdclone_n (HK.out.dw.dw.n.ext X3.out) (by have := HK.out.n8; omega) (fun k => Nat.le_trans (HK.out.few k) (by omega))).mono ?_
          rintro e w4 ⟨z4, rfl, ⟨d2, rfl, hc2⟩, b4⟩
          have K4 := Lib.hid (show DkS (fun b => b < W.heap.size) F w w4 H d (i + 1) s s from
            ⟨bt HK.out.ex (bt X3.out b4), HK.out.dw.dw.n.ext (bt X3.out b4), fun b hb => ⟨(HK.out.fb b hb).1, Nat.lt_of_lt_of_le (HK.out.fb b hb).2 (Ext.size (bt X3.out b4))⟩, (HK.out.ext (bt X3.out b4)).rd, HK.out.hi, HK.out.n8, HK.out.few⟩)
          have C4 := Lib.hid (show ClK (fun b => b < W.heap.size) (fun b => w3.heap.size ≤ b ∧ b < w4.heap.size) w w4 d2 from
            ⟨⟨s, hc2, HK.out.n8, fun k => Nat.le_trans (HK.out.few k) (by omega)⟩, fun b hb => ⟨Nat.le_trans (Ext.size (bt HK.out.ex X3.out)) hb.1, hb.2⟩⟩)
          have AP4 := Lib.hid (show ∀ b, (w3.heap.size ≤ b ∧ b < w4.heap.size) → ¬ F b from fun b hb hf => by
            have h1 := (HK.out.fb b hf).2
            have h2 := Ext.size X3.out
            have h3 := hb.1
            omega)
          have O4 := Lib.hid (own_below O3.out b4)
          have X4 := Lib.hid (bt X3.out b4)
          have k4 := And.intro (ext_cell (bt HK.out.ex X4.out) KC.out.1) (And.intro (ext_cell (bt HK.out.ex X4.out) KC.out.2.1) (ext_cell (bt HK.out.ex X4.out) KC.out.2.2))
          have hW4 : W.heap.size ≤ w4.heap.size := Ext.size X4.out
          obtain ⟨G, hG⟩ : ∃ G : Nat → Prop, (fun b => w3.heap.size ≤ b ∧ b < w4.heap.size) = G := ⟨_, rfl⟩
          have AP4' := Lib.hid (show ∀ b, G b → ¬ F b by rw [← hG]; exact AP4.out)
          rw [hG] at C4
          clear hc2 b4 O3 X3 hG AP4
          obtain ⟨q, hq⟩ : ∃ q, kd % 6 = q := ⟨_, rfl⟩
          have hq6 : q < 6 := by omega
          have pq : ((kd : Nat) : Int) % 6 = (q : Int) := by rw [← hq]; rfl
          clear hq
          go_upto_block 2 with fail
          rw [pq]
          clear pq
          go_cut [11, 12] (fun s11 s12 wx => ∃ (er : Int) (s' : DkT) (F' G' : Nat → Prop), s11 = .int .i64 er ∧ s12 = .int .i64 er ∧ DkS (fun _ => True) F' w wx H d (i + 2) s' s' ∧ ClK (fun _ => True) G' w wx d2 ∧ (∀ b, G' b → ¬ F' b))
          case first =>
            obtain rfl | rfl | rfl | rfl | rfl | rfl : q = 0 ∨ q = 1 ∨ q = 2 ∨ q = 3 ∨ q = 4 ∨ q = 5 := by omega
            · as_aux_lemma =>
                go_wp2_with fail
                refine (dw_write (N := fun _ => True) (F := Fw F w4) (s := s) (K4.out.dw.mono (fun _ _ => trivial) fun b h => Or.inl h) (fun b hb => Or.inr hb) (fun _ _ => trivial) (by have := K4.out.n8; omega) bk (fun Wx hc => OwB.rv (show OwB W.heap.size Wx (.slice A3 m c3) kt from hc.own O4.out fun b cs _ => MF.u8 b cs)) HKS.out.1 (K4.out.few.mono (by omega))).mono ?_
                rintro e w5 ⟨rfl, hd5, hc5⟩
                have hok := wrT_ok s bk kt K4.out.few
                have hrow := OwB.rv (show OwB W.heap.size w5 (.slice A3 m c3) kt from hc5.own O4.out fun b cs _ => MF.u8 b cs)
                have hrv := fun (Wx : World) (hx : Ext w5 Wx) (v : Value) (hv : RVs Wx v s) => rv_write hv K4.out.lft (by have := K4.out.n8; omega) K4.out.ne (K4.out.few.mono (by omega)) bk (hrow.below hx) HKS.out.1 (by have := HKS.out.1; omega)
                obtain ⟨⟨er, s'⟩, hp⟩ : ∃ p, wrT s bk kt = p := ⟨_, rfl⟩
                rw [hp] at hd5 hok hrv ⊢
                clear hrow
              
                have K5 := Lib.hid (K4.out.dstep (hd5) hc5 (hok.1.trans K4.out.n8) hok.2)
                have C5 := Lib.hid ((C4.out.wk (N' := fun _ => True) fun _ _ => trivial).dstep hc5 AP4'.out)
                have AP5 := Lib.hid (ap_dstep (W' := w5) C4.out AP4'.out)
                have HRV := Lib.hid hrv
                clear hd5 hc5 hok hp hrv k4
                obtain ⟨A6, n6, c6, a6, lf6, hb6, hv6⟩ := K5.out.rd
                have HV6 := Lib.hid hv6
                have HB6 := Lib.hid hb6
                have k6 := hb6.cells
                have f6 := hb6.free
                simp only [cellsAre, Nat.zero_add, Nat.reduceAdd, and_true] at k6
                unfold rdk at HV6
                clear hb6 hv6
              
                go_upto_region 19 with fail
                have hst : Ext w5 w5.drew := Ext.drew _
                have hsw : Ext w w5.drew := bt K5.out.ex hst
                have kA := fun w' (hh : Ext w w') => ext_cell hh KC.out.2.1
                have k6' := (HB6.out.below hst).cells
                simp only [cellsAre, Nat.zero_add, Nat.reduceAdd, and_true] at k6'
                clear k6
                have k6 := k6'
                clear k6'
                refine wp_region_brn (S := (Ext w)) (by kernel_rfl) (by kernel_rfl) (fun _ _ _ _ _ => ⟨fun h => h, fun h => h⟩) ?_
                intro hsel_ hQ_
                obtain ⟨wd, hwd⟩ : ∃ wd, w5.drew = wd := ⟨_, rfl⟩
                rw [hwd] at hst hsw k6 ⊢
                clear hwd
              
                refine wpB_chunk (f := 0) (L' := #[true, true, true, true, true, true, true, true, true, true, true, true, true]) hsel_ hQ_ [(1, true, some 107, none), (2, true, some 108, none), (3, true, some 109, none), (4, true, some 110, none), (5, true, some 111, none), (6, true, some 112, none), (0, false, some 106, none), (7, false, some 113, none), (8, true, some 105, none), (9, true, some 114, none), (10, true, some 115, none), (11, false, none, none), (12, false, some 12, none)] _ _ _ (by kernel_rfl) hsw ?_
                repeat (first | (refine wpSeqB_pure (v := ?_) rfl ?_ ?_; rotate_left 1; (focus (intro wq_ hSq_; (try dsimp only at hSq_); go_simp; (try with_reducible rfl); done)); (try simp only [Act.put, List.setIfInBounds_toArray, List.set_cons_zero, List.set_cons_succ])) | (refine wpSeqB_pureG (v := ?_) rfl rfl ?_ ?_; rotate_left 1; (focus (intro wq_ hSq_; (try dsimp only at hSq_); go_simp; (try with_reducible rfl); done)); (try simp only [Act.put, List.setIfInBounds_toArray, List.set_cons_zero, List.set_cons_succ])) | (refine wpSeqB_off rfl rfl ?_; (try simp only [Act.put, List.setIfInBounds_toArray, List.set_cons_zero, List.set_cons_succ])) | (refine wpSeqB_offU rfl ?_; (try simp only [Act.put, List.setIfInBounds_toArray, List.set_cons_zero, List.set_cons_succ])))
                first | refine wpSeqB_call rfl (fun K hK => ?_) | refine wpSeqB_callG rfl rfl (fun K hK => ?_)
                go_simp
                refine hK.out _ _ hsw ?_
                clear hK K
                (try simp only [List.getElem_toArray, List.getElem_cons_succ, List.getElem_cons_zero, Act.put, List.setIfInBounds_toArray, List.set_cons_zero, List.set_cons_succ])
                repeat (first | (refine wpSeqB_pure (v := ?_) rfl ?_ ?_; rotate_left 1; (focus (intro wq_ hSq_; (try dsimp only at hSq_); go_simp; (try with_reducible rfl); done)); (try simp only [Act.put, List.setIfInBounds_toArray, List.set_cons_zero, List.set_cons_succ])) | (refine wpSeqB_pureG (v := ?_) rfl rfl ?_ ?_; rotate_left 1; (focus (intro wq_ hSq_; (try dsimp only at hSq_); go_simp; (try with_reducible rfl); done)); (try simp only [Act.put, List.setIfInBounds_toArray, List.set_cons_zero, List.set_cons_succ])) | (refine wpSeqB_off rfl rfl ?_; (try simp only [Act.put, List.setIfInBounds_toArray, List.set_cons_zero, List.set_cons_succ])) | (refine wpSeqB_offU rfl ?_; (try simp only [Act.put, List.setIfInBounds_toArray, List.set_cons_zero, List.set_cons_succ])))
                first | refine wpSeqB_call rfl (fun K hK => ?_) | refine wpSeqB_callG rfl rfl (fun K hK => ?_)
                go_simp
                refine (HRV.out wd hst _ (HV6.out.ext hst)).mono ?_
                rintro e w6 ⟨z6, rfl, ⟨v7, rfl, hv7⟩, b6'⟩
                have b6 := bt hst b6'
                have s6 := bt hsw b6'
              
                have K6 := Lib.hid (K5.out.ext b6)
                have C6 := Lib.hid (C5.out.ext b6)
                have hb7 := HB6.out.below b6
                have k7 := hb7.cells
                have f7 := hb7.free
                simp only [cellsAre, Nat.zero_add, Nat.reduceAdd, and_true] at k7
                obtain ⟨A7, n7, c7, a7, lf7, e7, hv8⟩ := hv7
                have K7 := Lib.hid (K6.out.put (A := A7) (n := n7) (c := c7) (a := a7) (lf := lf7) ⟨A7, n7, c7, a7, lf7, rfl, hv8⟩)
                have C7 := Lib.hid (C6.out.put K6.out (.slice A7 n7 c7) (.bool s'.dn) (.bool a7) (.int .i64 lf7))
                subst e7
                unfold rdk
                clear k6 f6 hb7 hv8
              
                (try go_wp2_with fail)
                refine hK.out _ _ s6 ?_
                clear hK K
                (try simp only [List.getElem_toArray, List.getElem_cons_succ, List.getElem_cons_zero, Act.put, List.setIfInBounds_toArray, List.set_cons_zero, List.set_cons_succ])
                repeat (first | (refine wpSeqB_pure (v := ?_) rfl ?_ ?_; rotate_left 1; (focus (intro wq_ hSq_; (try dsimp only at hSq_); go_simp; (try with_reducible rfl); done)); (try simp only [Act.put, List.setIfInBounds_toArray, List.set_cons_zero, List.set_cons_succ])) | (refine wpSeqB_pureG (v := ?_) rfl rfl ?_ ?_; rotate_left 1; (focus (intro wq_ hSq_; (try dsimp only at hSq_); go_simp; (try with_reducible rfl); done)); (try simp only [Act.put, List.setIfInBounds_toArray, List.set_cons_zero, List.set_cons_succ])) | (refine wpSeqB_off rfl rfl ?_; (try simp only [Act.put, List.setIfInBounds_toArray, List.set_cons_zero, List.set_cons_succ])) | (refine wpSeqB_offU rfl ?_; (try simp only [Act.put, List.setIfInBounds_toArray, List.set_cons_zero, List.set_cons_succ])))
                first | refine wpSeqB_call rfl (fun K hK => ?_) | refine wpSeqB_callG rfl rfl (fun K hK => ?_)
                go_simp
                have s7 := K7.out.ex
                refine hK.out _ _ s7 ?_
                clear hK K
                (try simp only [List.getElem_toArray, List.getElem_cons_succ, List.getElem_cons_zero, Act.put, List.setIfInBounds_toArray, List.set_cons_zero, List.set_cons_succ])
                repeat (first | (refine wpSeqB_pure (v := ?_) rfl ?_ ?_; rotate_left 1; (focus (intro wq_ hSq_; (try dsimp only at hSq_); go_simp; (try with_reducible rfl); done)); (try simp only [Act.put, List.setIfInBounds_toArray, List.set_cons_zero, List.set_cons_succ])) | (refine wpSeqB_pureG (v := ?_) rfl rfl ?_ ?_; rotate_left 1; (focus (intro wq_ hSq_; (try dsimp only at hSq_); go_simp; (try with_reducible rfl); done)); (try simp only [Act.put, List.setIfInBounds_toArray, List.set_cons_zero, List.set_cons_succ])) | (refine wpSeqB_off rfl rfl ?_; (try simp only [Act.put, List.setIfInBounds_toArray, List.set_cons_zero, List.set_cons_succ])) | (refine wpSeqB_offU rfl ?_; (try simp only [Act.put, List.setIfInBounds_toArray, List.set_cons_zero, List.set_cons_succ])))
                first | refine wpSeqB_call rfl (fun K hK => ?_) | refine wpSeqB_callG rfl rfl (fun K hK => ?_)
                go_simp
                refine hK.out _ _ s7 ?_
                clear hK K
                (try simp only [List.getElem_toArray, List.getElem_cons_succ, List.getElem_cons_zero, Act.put, List.setIfInBounds_toArray, List.set_cons_zero, List.set_cons_succ])
                repeat (first | (refine wpSeqB_pure (v := ?_) rfl ?_ ?_; rotate_left 1; (focus (intro wq_ hSq_; (try dsimp only at hSq_); go_simp; (try with_reducible rfl); done)); (try simp only [Act.put, List.setIfInBounds_toArray, List.set_cons_zero, List.set_cons_succ])) | (refine wpSeqB_pureG (v := ?_) rfl rfl ?_ ?_; rotate_left 1; (focus (intro wq_ hSq_; (try dsimp only at hSq_); go_simp; (try with_reducible rfl); done)); (try simp only [Act.put, List.setIfInBounds_toArray, List.set_cons_zero, List.set_cons_succ])) | (refine wpSeqB_off rfl rfl ?_; (try simp only [Act.put, List.setIfInBounds_toArray, List.set_cons_zero, List.set_cons_succ])) | (refine wpSeqB_offU rfl ?_; (try simp only [Act.put, List.setIfInBounds_toArray, List.set_cons_zero, List.set_cons_succ])))
                intro s_
                clear s_ kA hsw s6 k7 f7 HV6 HRV
                refine wpB_end (by kernel_rfl) ?_
              
                clear hst b6 b6' HB6
                go_wp2_with fail
                go_meet
                exact ⟨er, s', _, _, rfl, rfl, K7.out, C7.out, AP5.out⟩
            · as_aux_lemma =>
                go_wp2_with fail
                refine (dw_sync (s := s) (F := Fw F w4) (K4.out.dw.dw.mono fun b h => Or.inl h) (fun b hb => Or.inr hb)).mono ?_
                rintro e w5 ⟨rfl, hd5, hc5⟩
                have hok := syT_ok s (m := i + 1) (by omega) K4.out.few
                have hrv := fun (W : World) (v : Value) (hv : RVs W v s) => rv_sync hv K4.out.lft (by have := K4.out.n8; omega) K4.out.ne (K4.out.few.mono (by omega))
                obtain ⟨⟨er, s'⟩, hp⟩ : ∃ p, syT s = p := ⟨_, rfl⟩
                rw [hp] at hd5 hok hrv ⊢
                have K5 := Lib.hid (K4.out.dstep (hd5.n.mono (N' := fun _ => True) (fun _ _ => trivial) fun _ h => h) hc5 (hok.1.trans K4.out.n8) hok.2)
                have C5 := Lib.hid ((C4.out.wk (N' := fun _ => True) fun _ _ => trivial).dstep hc5 AP4'.out)
                have AP5 := Lib.hid (ap_dstep (W' := w5) C4.out AP4'.out)
                have HRV := Lib.hid hrv
                clear hd5 hc5 hok hp hrv k4
                obtain ⟨A6, n6, c6, a6, lf6, hb6, hv6⟩ := K5.out.rd
                have HV6 := Lib.hid hv6
                have HB6 := Lib.hid hb6
                have k6 := hb6.cells
                have f6 := hb6.free
                simp only [cellsAre, Nat.zero_add, Nat.reduceAdd, and_true] at k6
                unfold rdk at HV6
                clear hb6 hv6
                go_wp2_with fail
                refine (HRV.out _ _ HV6.out).mono ?_
                rintro e w6 ⟨z6, rfl, ⟨v7, rfl, hv7⟩, b6⟩
                have K6 := Lib.hid (K5.out.ext b6)
                have C6 := Lib.hid (C5.out.ext b6)
                have hb7 := HB6.out.below b6
                have k7 := hb7.cells
                have f7 := hb7.free
                simp only [cellsAre, Nat.zero_add, Nat.reduceAdd, and_true] at k7
                obtain ⟨A7, n7, c7, a7, lf7, e7, hv8⟩ := hv7
                have K7 := Lib.hid (K6.out.put (A := A7) (n := n7) (c := c7) (a := a7) (lf := lf7) ⟨A7, n7, c7, a7, lf7, rfl, hv8⟩)
                have C7 := Lib.hid (C6.out.put K6.out (.slice A7 n7 c7) (.bool s'.dn) (.bool a7) (.int .i64 lf7))
                subst e7
                unfold rdk
                clear k6 f6 b6 hb7 hv8 HV6 HB6 HRV
                go_wp2_with fail
                go_meet
                exact ⟨er, s', _, _, rfl, rfl, K7.out, C7.out, AP5.out⟩
            · as_aux_lemma =>
                go_wp2_with fail
                refine (dw_read (s := s) (F := F) K4.out.dw.dw (by have := K4.out.n8; omega) bk).mono ?_
                rintro e w5 ⟨z5, rfl, ⟨A9, n9, c9, rfl, hcv⟩, b5⟩
                have hrv := fun (W : World) (v : Value) (hv : RVs W v s) => rv_read hv (by have := K4.out.n8; omega) K4.out.ne (K4.out.few.mono (by omega)) bk
                obtain ⟨⟨er, y⟩, hp⟩ : ∃ p, rdT s bk = p := ⟨_, rfl⟩
                rw [hp] at hcv hrv ⊢
                obtain ⟨x, hx⟩ : ∃ x, sb y = x := ⟨_, rfl⟩
                rw [show sb (er, y).2 = x from hx] at hcv hrv
                have K5 := Lib.hid (((K4.out.wk (N' := fun _ => True) fun _ _ => trivial).up (m' := i + 2) (by omega)).ext b5)
                have C5 := Lib.hid ((C4.out.wk (N' := fun _ => True) fun _ _ => trivial).ext b5)
                have HRV := Lib.hid hrv
                have HCV := Lib.hid hcv
                clear hp hrv hcv hx k4 b5
                obtain ⟨A6, n6, c6, a6, lf6, hb6, hv6⟩ := K5.out.rd
                have HV6 := Lib.hid hv6
                have HB6 := Lib.hid hb6
                have k6 := hb6.cells
                have f6 := hb6.free
                simp only [cellsAre, Nat.zero_add, Nat.reduceAdd, and_true] at k6
                unfold rdk at HV6
                clear hb6 hv6
                clear f6 k6
                go_upto_region 25 with fail
                have hst : Ext w5 w5.drew := Ext.drew _
                have kH := fun w' (hh : Ext w5 w') => (HB6.out.below hh).cells
                have kA := fun w' (hh : Ext w5 w') => ext_cell (bt K5.out.ex hh) KC.out.2.1
                simp only [cellsAre, Nat.zero_add, Nat.reduceAdd, and_true] at kH
                refine wp_region_brn (S := (Ext w5)) (by kernel_rfl) (by kernel_rfl) (fun _ _ _ _ _ => ⟨fun h => h, fun h => h⟩) ?_
                intro hsel_ hQ_
                obtain ⟨wd, hwd⟩ : ∃ wd, w5.drew = wd := ⟨_, rfl⟩
                rw [hwd] at hst ⊢
                clear hwd
                refine wpB_chunk (f := 0) (L' := #[true, true, true, true, true, true, true, true, true, true, true, true]) hsel_ hQ_ [(0, true, some 138, none), (1, true, some 139, none), (2, true, some 140, none), (3, true, some 141, none), (4, true, some 142, none), (5, true, some 143, none), (6, false, some 144, none), (7, true, some 137, none), (8, true, some 145, none), (9, true, some 146, none), (10, false, some 15, none), (11, false, some 16, none)] _ _ _ (by kernel_rfl) hst ?_
                repeat (first | (refine wpSeqB_pure (v := ?_) rfl ?_ ?_; rotate_left 1; (focus (intro wq_ hSq_; (try dsimp only at hSq_); go_simp; (try with_reducible rfl); done)); (try simp only [Act.put, List.setIfInBounds_toArray, List.set_cons_zero, List.set_cons_succ])) | (refine wpSeqB_pureG (v := ?_) rfl rfl ?_ ?_; rotate_left 1; (focus (intro wq_ hSq_; (try dsimp only at hSq_); go_simp; (try with_reducible rfl); done)); (try simp only [Act.put, List.setIfInBounds_toArray, List.set_cons_zero, List.set_cons_succ])) | (refine wpSeqB_off rfl rfl ?_; (try simp only [Act.put, List.setIfInBounds_toArray, List.set_cons_zero, List.set_cons_succ])) | (refine wpSeqB_offU rfl ?_; (try simp only [Act.put, List.setIfInBounds_toArray, List.set_cons_zero, List.set_cons_succ])))
                first | refine wpSeqB_call rfl (fun K hK => ?_) | refine wpSeqB_callG rfl rfl (fun K hK => ?_)
                go_simp
                refine (HRV.out wd _ (HV6.out.ext hst)).mono ?_
                rintro e w6 ⟨z6, rfl, rfl, b6⟩
                have s1 : Ext w5 w6 := bt hst b6
                clear b6
                (try go_wp2_with fail)
                refine hK.out _ _ s1 ?_
                clear hK K
                (try simp only [List.getElem_toArray, List.getElem_cons_succ, List.getElem_cons_zero, Act.put, List.setIfInBounds_toArray, List.set_cons_zero, List.set_cons_succ])
                repeat (first | (refine wpSeqB_pure (v := ?_) rfl ?_ ?_; rotate_left 1; (focus (intro wq_ hSq_; (try dsimp only at hSq_); go_simp; (try with_reducible rfl); done)); (try simp only [Act.put, List.setIfInBounds_toArray, List.set_cons_zero, List.set_cons_succ])) | (refine wpSeqB_pureG (v := ?_) rfl rfl ?_ ?_; rotate_left 1; (focus (intro wq_ hSq_; (try dsimp only at hSq_); go_simp; (try with_reducible rfl); done)); (try simp only [Act.put, List.setIfInBounds_toArray, List.set_cons_zero, List.set_cons_succ])) | (refine wpSeqB_off rfl rfl ?_; (try simp only [Act.put, List.setIfInBounds_toArray, List.set_cons_zero, List.set_cons_succ])) | (refine wpSeqB_offU rfl ?_; (try simp only [Act.put, List.setIfInBounds_toArray, List.set_cons_zero, List.set_cons_succ])))
                first | refine wpSeqB_call rfl (fun K hK => ?_) | refine wpSeqB_callG rfl rfl (fun K hK => ?_)
                go_simp
                refine hK.out _ _ s1 ?_
                clear hK K
                (try simp only [List.getElem_toArray, List.getElem_cons_succ, List.getElem_cons_zero, Act.put, List.setIfInBounds_toArray, List.set_cons_zero, List.set_cons_succ])
                repeat (first | (refine wpSeqB_pure (v := ?_) rfl ?_ ?_; rotate_left 1; (focus (intro wq_ hSq_; (try dsimp only at hSq_); go_simp; (try with_reducible rfl); done)); (try simp only [Act.put, List.setIfInBounds_toArray, List.set_cons_zero, List.set_cons_succ])) | (refine wpSeqB_pureG (v := ?_) rfl rfl ?_ ?_; rotate_left 1; (focus (intro wq_ hSq_; (try dsimp only at hSq_); go_simp; (try with_reducible rfl); done)); (try simp only [Act.put, List.setIfInBounds_toArray, List.set_cons_zero, List.set_cons_succ])) | (refine wpSeqB_off rfl rfl ?_; (try simp only [Act.put, List.setIfInBounds_toArray, List.set_cons_zero, List.set_cons_succ])) | (refine wpSeqB_offU rfl ?_; (try simp only [Act.put, List.setIfInBounds_toArray, List.set_cons_zero, List.set_cons_succ])))
                first | refine wpSeqB_call rfl (fun K hK => ?_) | refine wpSeqB_callG rfl rfl (fun K hK => ?_)
                go_simp
                refine hK.out _ _ s1 ?_
                clear hK K
                (try simp only [List.getElem_toArray, List.getElem_cons_succ, List.getElem_cons_zero, Act.put, List.setIfInBounds_toArray, List.set_cons_zero, List.set_cons_succ])
                repeat (first | (refine wpSeqB_pure (v := ?_) rfl ?_ ?_; rotate_left 1; (focus (intro wq_ hSq_; (try dsimp only at hSq_); go_simp; (try with_reducible rfl); done)); (try simp only [Act.put, List.setIfInBounds_toArray, List.set_cons_zero, List.set_cons_succ])) | (refine wpSeqB_pureG (v := ?_) rfl rfl ?_ ?_; rotate_left 1; (focus (intro wq_ hSq_; (try dsimp only at hSq_); go_simp; (try with_reducible rfl); done)); (try simp only [Act.put, List.setIfInBounds_toArray, List.set_cons_zero, List.set_cons_succ])) | (refine wpSeqB_off rfl rfl ?_; (try simp only [Act.put, List.setIfInBounds_toArray, List.set_cons_zero, List.set_cons_succ])) | (refine wpSeqB_offU rfl ?_; (try simp only [Act.put, List.setIfInBounds_toArray, List.set_cons_zero, List.set_cons_succ])))
                intro s_
                clear s_
                refine wpB_end (by kernel_rfl) ?_
                have hcv6 := HCV.out w6 s1
                have K6 := Lib.hid (K5.out.ext s1)
                have C6 := Lib.hid (C5.out.ext s1)
                clear kH kA hst s1 HV6 HB6 HRV HCV
                go_wp2_with fail
                go_meet
                exact ⟨0, s, _, _, rfl, rfl, K6.out, C6.out, AP4'.out⟩
            · as_aux_lemma =>
                go_wp2_with fail
                refine (dw_arm (s := s) (F := Fw F w4) (K4.out.dw.dw.mono fun b h => Or.inl h) bk hb2).mono ?_
                rintro e w5 ⟨⟨v5, rfl⟩, hd5, hc5⟩
                have hok : (arT s bk).bl.length = s.bl.length ∧ FewB (i + 2) (arT s bk).bl := ⟨rfl, K4.out.few.mono (by omega)⟩
                have hrv := fun (W : World) (v : Value) (hv : RVs W v s) => (show Calls Try.prog 38 #[v, .int .i64 bk] W (Ret (fun z w' => RVs w' z (arT s bk)) W) from zarm_any hv bk)
                obtain ⟨s', hp⟩ : ∃ p, arT s bk = p := ⟨_, rfl⟩
                rw [hp] at hd5 hok hrv
              
                have K5 := Lib.hid (K4.out.dstep (hd5.n.mono (N' := fun _ => True) (fun _ _ => trivial) fun _ h => h) hc5 (hok.1.trans K4.out.n8) hok.2)
                have C5 := Lib.hid ((C4.out.wk (N' := fun _ => True) fun _ _ => trivial).dstep hc5 AP4'.out)
                have AP5 := Lib.hid (ap_dstep (W' := w5) C4.out AP4'.out)
                have HRV := Lib.hid hrv
                clear hd5 hc5 hok hp hrv k4
                obtain ⟨A6, n6, c6, a6, lf6, hb6, hv6⟩ := K5.out.rd
                have HV6 := Lib.hid hv6
                have HB6 := Lib.hid hb6
                have k6 := hb6.cells
                have f6 := hb6.free
                simp only [cellsAre, Nat.zero_add, Nat.reduceAdd, and_true] at k6
                unfold rdk at HV6
                clear hb6 hv6
              
                go_upto_region 30 with fail
                have hst : Ext w5 w5.drew := Ext.drew _
                have hsw : Ext w w5.drew := bt K5.out.ex hst
                have kA := fun w' (hh : Ext w w') => ext_cell hh KC.out.2.1
                have k6' := (HB6.out.below hst).cells
                simp only [cellsAre, Nat.zero_add, Nat.reduceAdd, and_true] at k6'
                clear k6
                have k6 := k6'
                clear k6'
                refine wp_region_brn (S := (Ext w)) (by kernel_rfl) (by kernel_rfl) (fun _ _ _ _ _ => ⟨fun h => h, fun h => h⟩) ?_
                intro hsel_ hQ_
                obtain ⟨wd, hwd⟩ : ∃ wd, w5.drew = wd := ⟨_, rfl⟩
                rw [hwd] at hst hsw k6 ⊢
                clear hwd
              
                refine wpB_chunk (f := 0) (L' := #[true, true, true, true, true, true, true, true]) hsel_ hQ_ [(1, true, some 166, none), (2, true, some 167, none), (3, true, some 168, none), (4, true, some 169, none), (5, true, some 170, none), (0, false, some 165, none), (6, false, some 171, none), (7, false, none, none)] _ _ _ (by kernel_rfl) hsw ?_
                repeat (first | (refine wpSeqB_pure (v := ?_) rfl ?_ ?_; rotate_left 1; (focus (intro wq_ hSq_; (try dsimp only at hSq_); go_simp; (try with_reducible rfl); done)); (try simp only [Act.put, List.setIfInBounds_toArray, List.set_cons_zero, List.set_cons_succ])) | (refine wpSeqB_pureG (v := ?_) rfl rfl ?_ ?_; rotate_left 1; (focus (intro wq_ hSq_; (try dsimp only at hSq_); go_simp; (try with_reducible rfl); done)); (try simp only [Act.put, List.setIfInBounds_toArray, List.set_cons_zero, List.set_cons_succ])) | (refine wpSeqB_off rfl rfl ?_; (try simp only [Act.put, List.setIfInBounds_toArray, List.set_cons_zero, List.set_cons_succ])) | (refine wpSeqB_offU rfl ?_; (try simp only [Act.put, List.setIfInBounds_toArray, List.set_cons_zero, List.set_cons_succ])))
                first | refine wpSeqB_call rfl (fun K hK => ?_) | refine wpSeqB_callG rfl rfl (fun K hK => ?_)
                go_simp
                refine hK.out _ _ hsw ?_
                clear hK K
                (try simp only [List.getElem_toArray, List.getElem_cons_succ, List.getElem_cons_zero, Act.put, List.setIfInBounds_toArray, List.set_cons_zero, List.set_cons_succ])
                repeat (first | (refine wpSeqB_pure (v := ?_) rfl ?_ ?_; rotate_left 1; (focus (intro wq_ hSq_; (try dsimp only at hSq_); go_simp; (try with_reducible rfl); done)); (try simp only [Act.put, List.setIfInBounds_toArray, List.set_cons_zero, List.set_cons_succ])) | (refine wpSeqB_pureG (v := ?_) rfl rfl ?_ ?_; rotate_left 1; (focus (intro wq_ hSq_; (try dsimp only at hSq_); go_simp; (try with_reducible rfl); done)); (try simp only [Act.put, List.setIfInBounds_toArray, List.set_cons_zero, List.set_cons_succ])) | (refine wpSeqB_off rfl rfl ?_; (try simp only [Act.put, List.setIfInBounds_toArray, List.set_cons_zero, List.set_cons_succ])) | (refine wpSeqB_offU rfl ?_; (try simp only [Act.put, List.setIfInBounds_toArray, List.set_cons_zero, List.set_cons_succ])))
                first | refine wpSeqB_call rfl (fun K hK => ?_) | refine wpSeqB_callG rfl rfl (fun K hK => ?_)
                go_simp
                refine (HRV.out wd _ (HV6.out.ext hst)).mono ?_
                rintro e w6 ⟨v7, rfl, hv7, b6'⟩
                have b6 := bt hst b6'
                have s6 := bt hsw b6'
              
                have K6 := Lib.hid (K5.out.ext b6)
                have C6 := Lib.hid (C5.out.ext b6)
                have hb7 := HB6.out.below b6
                have k7 := hb7.cells
                have f7 := hb7.free
                simp only [cellsAre, Nat.zero_add, Nat.reduceAdd, and_true] at k7
                obtain ⟨A7, n7, c7, a7, lf7, e7, hv8⟩ := hv7
                have K7 := Lib.hid (K6.out.put (A := A7) (n := n7) (c := c7) (a := a7) (lf := lf7) ⟨A7, n7, c7, a7, lf7, rfl, hv8⟩)
                have C7 := Lib.hid (C6.out.put K6.out (.slice A7 n7 c7) (.bool s'.dn) (.bool a7) (.int .i64 lf7))
                subst e7
                unfold rdk
                clear k6 f6 hb7 hv8
              
                clear b6' b6
                (try go_wp2_with fail)
                refine hK.out _ _ s6 ?_
                clear hK K
                (try simp only [List.getElem_toArray, List.getElem_cons_succ, List.getElem_cons_zero, Act.put, List.setIfInBounds_toArray, List.set_cons_zero, List.set_cons_succ])
                repeat (first | (refine wpSeqB_pure (v := ?_) rfl ?_ ?_; rotate_left 1; (focus (intro wq_ hSq_; (try dsimp only at hSq_); go_simp; (try with_reducible rfl); done)); (try simp only [Act.put, List.setIfInBounds_toArray, List.set_cons_zero, List.set_cons_succ])) | (refine wpSeqB_pureG (v := ?_) rfl rfl ?_ ?_; rotate_left 1; (focus (intro wq_ hSq_; (try dsimp only at hSq_); go_simp; (try with_reducible rfl); done)); (try simp only [Act.put, List.setIfInBounds_toArray, List.set_cons_zero, List.set_cons_succ])) | (refine wpSeqB_off rfl rfl ?_; (try simp only [Act.put, List.setIfInBounds_toArray, List.set_cons_zero, List.set_cons_succ])) | (refine wpSeqB_offU rfl ?_; (try simp only [Act.put, List.setIfInBounds_toArray, List.set_cons_zero, List.set_cons_succ])))
                first | refine wpSeqB_call rfl (fun K hK => ?_) | refine wpSeqB_callG rfl rfl (fun K hK => ?_)
                go_simp
                refine hK.out _ _ K7.out.ex ?_
                clear hK K
                intro s_
                clear s_ kA hst hsw s6 k7 f7 HV6 HB6 HRV
                refine wpB_end (by kernel_rfl) ?_
                go_wp2_with fail
                go_meet
                exact ⟨0, s', _, _, rfl, rfl, K7.out, C7.out, AP5.out⟩
            · as_aux_lemma =>
                go_wp2_with fail
                refine (dw_restart (s := s) (F := Fw F w4) (K4.out.dw.dw.mono fun b h => Or.inl h) (fun b hb => Or.inr hb) (by have := K4.out.n8; omega) A3 m c3 kt (fun Wx hc => OwB.rv (show OwB W.heap.size Wx (.slice A3 m c3) kt from hc.own O4.out fun b cs _ => MF.u8 b cs)) HKS.out.2 (K4.out.few.mono (by omega))).mono ?_
                rintro e w5 ⟨⟨v5, rfl⟩, hd5, hc5⟩
                have hok := rsT_ok s kt (m := i + 1) (by omega)
                have hrow := OwB.rv (show OwB W.heap.size w5 (.slice A3 m c3) kt from hc5.own O4.out fun b cs _ => MF.u8 b cs)
                have hrv := fun (v : Value) (hv : RVs w5 v s) => (show Calls Try.prog 40 #[v, .slice A3 m c3] w5 (Ret (fun z w' => RVs w' z (rsT s kt)) w5) from zrestart_ok hv (by have := K4.out.n8; omega) K4.out.ne (K4.out.few.mono (by omega)) A3 m c3 kt hrow HKS.out.2 (by have := HKS.out.1; omega))
                obtain ⟨s', hp⟩ : ∃ p, rsT s kt = p := ⟨_, rfl⟩
                rw [hp] at hd5 hok hrv
                clear hrow
              
                have K5 := Lib.hid (K4.out.dstep (hd5.n.mono (N' := fun _ => True) (fun _ _ => trivial) fun _ h => h) hc5 (hok.1.trans K4.out.n8) hok.2)
                have C5 := Lib.hid ((C4.out.wk (N' := fun _ => True) fun _ _ => trivial).dstep hc5 AP4'.out)
                have AP5 := Lib.hid (ap_dstep (W' := w5) C4.out AP4'.out)
                have HRV := Lib.hid hrv
                clear hd5 hc5 hok hp hrv k4
                obtain ⟨A6, n6, c6, a6, lf6, hb6, hv6⟩ := K5.out.rd
                have HV6 := Lib.hid hv6
                have HB6 := Lib.hid hb6
                have k6 := hb6.cells
                have f6 := hb6.free
                simp only [cellsAre, Nat.zero_add, Nat.reduceAdd, and_true] at k6
                unfold rdk at HV6
                clear hb6 hv6
              
                go_wp2_with fail
                refine (HRV.out _ HV6.out).mono ?_
                rintro e w6 ⟨v7, rfl, hv7, b6⟩
              
                have K6 := Lib.hid (K5.out.ext b6)
                have C6 := Lib.hid (C5.out.ext b6)
                have hb7 := HB6.out.below b6
                have k7 := hb7.cells
                have f7 := hb7.free
                simp only [cellsAre, Nat.zero_add, Nat.reduceAdd, and_true] at k7
                obtain ⟨A7, n7, c7, a7, lf7, e7, hv8⟩ := hv7
                have K7 := Lib.hid (K6.out.put (A := A7) (n := n7) (c := c7) (a := a7) (lf := lf7) ⟨A7, n7, c7, a7, lf7, rfl, hv8⟩)
                have C7 := Lib.hid (C6.out.put K6.out (.slice A7 n7 c7) (.bool s'.dn) (.bool a7) (.int .i64 lf7))
                subst e7
                unfold rdk
                clear k6 f6 hb7 hv8
              
                clear b6 HV6 HB6 HRV
                go_wp2_with fail
                go_meet
                exact ⟨0, s', _, _, rfl, rfl, K7.out, C7.out, AP5.out⟩
            · as_aux_lemma =>
                have hkt := HKS.out.1
                have hkey : ∀ A9 n9 c9 w9, OwB W.heap.size w9 (.slice A9 n9 c9) (kt ++ List.replicate 64 0) → Below W.heap.size w4 w9 → w4.grownBy w9 (Value.slice A3 m c3).ownBlock → ∃ B9, A9 = some ⟨B9, 0, none⟩ ∧ 64 ≤ n9 ∧ n9 ≤ c9 ∧ c9 ≤ 9223372036854775807 ∧ W.heap.size ≤ B9 ∧ B9 < w9.heap.size ∧ n9 = (kt ++ List.replicate 64 0).length ∧ DkS (fun b => b < W.heap.size) F w w9 H d (i + 1) s s ∧ ClK (fun b => b < W.heap.size) G w w9 d2 := fun A9 n9 c9 w9 o9 b9 g9 => by
                  have hl := OwB.len64 o9
                  have h64 : 64 ≤ n9 := by rw [← hl, List.length_append, List.length_replicate]; omega
                  have hrv := OwB.rv o9
                  have o9' := o9
                  unfold OwB at o9'
                  obtain ⟨B9, cq, e9⟩ := own_form0 o9' (by rw [hl]; omega)
                  injection e9 with e9 _ _
                  obtain ⟨B0, hB0, hB1⟩ : ∃ B0, W.heap.size ≤ B0 ∧ ∀ b, (Value.slice A3 m c3).ownBlock = some b → b = B0 := by
                    cases hob : (Value.slice A3 m c3).ownBlock with
                    | none => exact ⟨W.heap.size, Nat.le_refl _, fun b hb => by cases hb⟩
                    | some b => exact ⟨b, own_geE O4.out b hob, fun b' hb' => by injection hb' with hb'; exact hb'.symm⟩
                  have hc : Chg (XU B0) w4 w9 := Chg.grow g9 fun b o e hb => ⟨hB1 b e, by
                    obtain ⟨cs, hcs⟩ := own_lt' (own_lower O4.out (Nat.zero_le _)) e
                    rw [hcs] at hb
                    injection hb with hb
                    exact ⟨cs, hb.symm⟩⟩
                  exact ⟨B9, e9, h64, hrv.le, hrv.cap, own_geE o9 B9 (by rw [e9]; rfl), own_lt o9 B9 (by rw [e9]; rfl), hl.symm, K4.out.poke hc (by omega) (Nat.le_trans (Ext.size HK.out.ex) hB0), C4.out.poke hc (by omega)⟩
                have KEY := Lib.hid hkey
                have hkb : kt.length ≤ 1000000 := by omega
                have HKB := Lib.hid hkb
                clear hkey hkb hkt
                go_upto_region 36 with (at_builtin; refine wpl_appZ rfl _ _ rfl W.heap.size (.slice A3 m c3) kt rfl O4.out 64 rfl HKB.out (by omega) hW4 ?_; intro A9 n9 c9 w9 o9 b9 g9; obtain ⟨B9, rfl, h64, hnc9, hcc9, hB1, hB2, hl9, k9_, c9_⟩ := KEY.out _ _ _ _ o9 b9 g9; have K9 := Lib.hid k9_; have C9 := Lib.hid c9_; have O9 := Lib.hid o9; have HL9 := Lib.hid hl9; have HB9 := Lib.hid (And.intro hB1 hB2); have p64 : (64 : Int) ≤ (c9 : Int) := (by omega); have p65 : ¬ (c9 : Int) < 64 := (by omega); clear o9 b9 g9 k9_ c9_ hB1 hB2 hl9 k4)
                have k9 := ext_cell K9.out.ex KC.out.2.1
                obtain ⟨z, hz⟩ : ∃ z, (kt ++ List.replicate 64 0).take 64 = z := ⟨_, rfl⟩
                have hz64 : z.length = 64 := by rw [← hz, List.length_take, ← HL9.out]; omega
                have hrow9 := fun (Wx : World) (ho : OwB W.heap.size Wx (.slice (some ⟨B9, 0, none⟩) n9 c9) (kt ++ List.replicate 64 0)) => (show Rv Wx 1 (some ⟨B9, 0, none⟩) 64 c9 (bc z) from by
                  have h1 := (OwB.rv ho).take (m := 64) (by omega)
                  have e1 : (bc (kt ++ List.replicate 64 0)).take (64 * 1) = bc z := by rw [← hz, Nat.mul_one]; unfold bc; rw [List.map_take]
                  rw [e1] at h1
                  exact h1)
                have HROW := Lib.hid hrow9
                have HZ64 := Lib.hid hz64
                clear hz hrow9 hz64
                go_wp2_with fail
                refine (dw_write (N := fun b => b < W.heap.size ∨ w9.heap.size ≤ b) (F := Fw F w9) (s := s) (K9.out.dw.mono (fun _ h => Or.inl h) fun b h => Or.inl h) (fun b hb => Or.inr hb) (fun _ h => Or.inr h) (by have := K9.out.n8; omega) bk (fun Wx hc => HROW.out Wx (hc.own O9.out fun b cs _ => MF.u8 b cs)) HZ64.out (K9.out.few.mono (by omega))).mono ?_
                rintro e w5 ⟨rfl, hd5, hc5⟩
                have hok := wrT_ok s bk z K9.out.few
                have O5 := Lib.hid (show OwB W.heap.size w5 (.slice (some ⟨B9, 0, none⟩) n9 c9) (kt ++ List.replicate 64 0) from hc5.own O9.out fun b cs _ => MF.u8 b cs)
                have hrow := HROW.out w5 O5.out
                have hrv := fun (Wx : World) (hx : Ext w5 Wx) (v : Value) (hv : RVs Wx v s) => rv_write hv K9.out.lft (by have := K9.out.n8; omega) K9.out.ne (K9.out.few.mono (by omega)) bk (hrow.below hx) HZ64.out (by omega)
                obtain ⟨⟨er, s'⟩, hp⟩ : ∃ p, wrT s bk z = p := ⟨_, rfl⟩
                rw [hp] at hd5 hok hrv ⊢
                clear hrow
                have K5 := Lib.hid (K9.out.dstep hd5 hc5 (hok.1.trans K9.out.n8) hok.2)
                have C5 := Lib.hid (C9.out.dstep hc5 AP4'.out)
                have AP5 := Lib.hid (ap_dstep (W' := w5) C9.out AP4'.out)
                have HRV := Lib.hid hrv
                clear hd5 hc5 hok hp hrv k9
                obtain ⟨A6, n6, c6, a6, lf6, hb6, hv6⟩ := K5.out.rd
                have HV6 := Lib.hid hv6
                have HB6 := Lib.hid hb6
                have k6 := hb6.cells
                have f6 := hb6.free
                simp only [cellsAre, Nat.zero_add, Nat.reduceAdd, and_true] at k6
                unfold rdk at HV6
                clear hb6 hv6
              
                go_upto_region 37 with fail
                have hst : Ext w5 w5.drew := Ext.drew _
                have hsw : Ext w w5.drew := bt K5.out.ex hst
                have kA := fun w' (hh : Ext w w') => ext_cell hh KC.out.2.1
                have k6' := (HB6.out.below hst).cells
                simp only [cellsAre, Nat.zero_add, Nat.reduceAdd, and_true] at k6'
                clear k6
                have k6 := k6'
                clear k6'
                refine wp_region_brn (S := (Ext w)) (by kernel_rfl) (by kernel_rfl) (fun _ _ _ _ _ => ⟨fun h => h, fun h => h⟩) ?_
                intro hsel_ hQ_
                obtain ⟨wd, hwd⟩ : ∃ wd, w5.drew = wd := ⟨_, rfl⟩
                rw [hwd] at hst hsw k6 ⊢
                clear hwd
              
                refine wpB_chunk (f := 0) (L' := #[true, true, true, true, true, true, true, true, true, true, true, true, true]) hsel_ hQ_ [(1, true, some 195, none), (2, true, some 196, none), (3, true, some 197, none), (4, true, some 198, none), (5, true, some 199, none), (6, true, some 200, none), (0, false, some 194, none), (7, false, some 201, none), (8, true, some 193, none), (9, true, some 202, none), (10, true, some 203, none), (11, false, none, none), (12, false, some 12, none)] _ _ _ (by kernel_rfl) hsw ?_
                repeat (first | (refine wpSeqB_pure (v := ?_) rfl ?_ ?_; rotate_left 1; (focus (intro wq_ hSq_; (try dsimp only at hSq_); go_simp; (try with_reducible rfl); done)); (try simp only [Act.put, List.setIfInBounds_toArray, List.set_cons_zero, List.set_cons_succ])) | (refine wpSeqB_pureG (v := ?_) rfl rfl ?_ ?_; rotate_left 1; (focus (intro wq_ hSq_; (try dsimp only at hSq_); go_simp; (try with_reducible rfl); done)); (try simp only [Act.put, List.setIfInBounds_toArray, List.set_cons_zero, List.set_cons_succ])) | (refine wpSeqB_off rfl rfl ?_; (try simp only [Act.put, List.setIfInBounds_toArray, List.set_cons_zero, List.set_cons_succ])) | (refine wpSeqB_offU rfl ?_; (try simp only [Act.put, List.setIfInBounds_toArray, List.set_cons_zero, List.set_cons_succ])))
                first | refine wpSeqB_call rfl (fun K hK => ?_) | refine wpSeqB_callG rfl rfl (fun K hK => ?_)
                go_simp
                refine hK.out _ _ hsw ?_
                clear hK K
                (try simp only [List.getElem_toArray, List.getElem_cons_succ, List.getElem_cons_zero, Act.put, List.setIfInBounds_toArray, List.set_cons_zero, List.set_cons_succ])
                repeat (first | (refine wpSeqB_pure (v := ?_) rfl ?_ ?_; rotate_left 1; (focus (intro wq_ hSq_; (try dsimp only at hSq_); go_simp; (try with_reducible rfl); done)); (try simp only [Act.put, List.setIfInBounds_toArray, List.set_cons_zero, List.set_cons_succ])) | (refine wpSeqB_pureG (v := ?_) rfl rfl ?_ ?_; rotate_left 1; (focus (intro wq_ hSq_; (try dsimp only at hSq_); go_simp; (try with_reducible rfl); done)); (try simp only [Act.put, List.setIfInBounds_toArray, List.set_cons_zero, List.set_cons_succ])) | (refine wpSeqB_off rfl rfl ?_; (try simp only [Act.put, List.setIfInBounds_toArray, List.set_cons_zero, List.set_cons_succ])) | (refine wpSeqB_offU rfl ?_; (try simp only [Act.put, List.setIfInBounds_toArray, List.set_cons_zero, List.set_cons_succ])))
                first | refine wpSeqB_call rfl (fun K hK => ?_) | refine wpSeqB_callG rfl rfl (fun K hK => ?_)
                go_simp
                refine (HRV.out wd hst _ (HV6.out.ext hst)).mono ?_
                rintro e w6 ⟨z6, rfl, ⟨v7, rfl, hv7⟩, b6'⟩
                have b6 := bt hst b6'
                have s6 := bt hsw b6'
              
                have K6 := Lib.hid (K5.out.ext b6)
                have C6 := Lib.hid (C5.out.ext b6)
                have hb7 := HB6.out.below b6
                have k7 := hb7.cells
                have f7 := hb7.free
                simp only [cellsAre, Nat.zero_add, Nat.reduceAdd, and_true] at k7
                obtain ⟨A7, n7, c7, a7, lf7, e7, hv8⟩ := hv7
                have K7 := Lib.hid (K6.out.put (A := A7) (n := n7) (c := c7) (a := a7) (lf := lf7) ⟨A7, n7, c7, a7, lf7, rfl, hv8⟩)
                have C7 := Lib.hid (C6.out.put K6.out (.slice A7 n7 c7) (.bool s'.dn) (.bool a7) (.int .i64 lf7))
                have HB7 := Lib.hid hb7
                subst e7
                unfold rdk
                clear k6 f6 hb7 hv8
              
                (try go_wp2_with fail)
                refine hK.out _ _ s6 ?_
                clear hK K
                (try simp only [List.getElem_toArray, List.getElem_cons_succ, List.getElem_cons_zero, Act.put, List.setIfInBounds_toArray, List.set_cons_zero, List.set_cons_succ])
                repeat (first | (refine wpSeqB_pure (v := ?_) rfl ?_ ?_; rotate_left 1; (focus (intro wq_ hSq_; (try dsimp only at hSq_); go_simp; (try with_reducible rfl); done)); (try simp only [Act.put, List.setIfInBounds_toArray, List.set_cons_zero, List.set_cons_succ])) | (refine wpSeqB_pureG (v := ?_) rfl rfl ?_ ?_; rotate_left 1; (focus (intro wq_ hSq_; (try dsimp only at hSq_); go_simp; (try with_reducible rfl); done)); (try simp only [Act.put, List.setIfInBounds_toArray, List.set_cons_zero, List.set_cons_succ])) | (refine wpSeqB_off rfl rfl ?_; (try simp only [Act.put, List.setIfInBounds_toArray, List.set_cons_zero, List.set_cons_succ])) | (refine wpSeqB_offU rfl ?_; (try simp only [Act.put, List.setIfInBounds_toArray, List.set_cons_zero, List.set_cons_succ])))
                first | refine wpSeqB_call rfl (fun K hK => ?_) | refine wpSeqB_callG rfl rfl (fun K hK => ?_)
                go_simp
                have s7 := K7.out.ex
                refine hK.out _ _ s7 ?_
                clear hK K
                (try simp only [List.getElem_toArray, List.getElem_cons_succ, List.getElem_cons_zero, Act.put, List.setIfInBounds_toArray, List.set_cons_zero, List.set_cons_succ])
                repeat (first | (refine wpSeqB_pure (v := ?_) rfl ?_ ?_; rotate_left 1; (focus (intro wq_ hSq_; (try dsimp only at hSq_); go_simp; (try with_reducible rfl); done)); (try simp only [Act.put, List.setIfInBounds_toArray, List.set_cons_zero, List.set_cons_succ])) | (refine wpSeqB_pureG (v := ?_) rfl rfl ?_ ?_; rotate_left 1; (focus (intro wq_ hSq_; (try dsimp only at hSq_); go_simp; (try with_reducible rfl); done)); (try simp only [Act.put, List.setIfInBounds_toArray, List.set_cons_zero, List.set_cons_succ])) | (refine wpSeqB_off rfl rfl ?_; (try simp only [Act.put, List.setIfInBounds_toArray, List.set_cons_zero, List.set_cons_succ])) | (refine wpSeqB_offU rfl ?_; (try simp only [Act.put, List.setIfInBounds_toArray, List.set_cons_zero, List.set_cons_succ])))
                first | refine wpSeqB_call rfl (fun K hK => ?_) | refine wpSeqB_callG rfl rfl (fun K hK => ?_)
                go_simp
                refine hK.out _ _ s7 ?_
                clear hK K
                (try simp only [List.getElem_toArray, List.getElem_cons_succ, List.getElem_cons_zero, Act.put, List.setIfInBounds_toArray, List.set_cons_zero, List.set_cons_succ])
                repeat (first | (refine wpSeqB_pure (v := ?_) rfl ?_ ?_; rotate_left 1; (focus (intro wq_ hSq_; (try dsimp only at hSq_); go_simp; (try with_reducible rfl); done)); (try simp only [Act.put, List.setIfInBounds_toArray, List.set_cons_zero, List.set_cons_succ])) | (refine wpSeqB_pureG (v := ?_) rfl rfl ?_ ?_; rotate_left 1; (focus (intro wq_ hSq_; (try dsimp only at hSq_); go_simp; (try with_reducible rfl); done)); (try simp only [Act.put, List.setIfInBounds_toArray, List.set_cons_zero, List.set_cons_succ])) | (refine wpSeqB_off rfl rfl ?_; (try simp only [Act.put, List.setIfInBounds_toArray, List.set_cons_zero, List.set_cons_succ])) | (refine wpSeqB_offU rfl ?_; (try simp only [Act.put, List.setIfInBounds_toArray, List.set_cons_zero, List.set_cons_succ])))
                intro s_
                clear s_ kA hsw s6 k7 f7 HV6 HRV
                refine wpB_end (by kernel_rfl) ?_
              
                have O7 := Lib.hid (show OwB W.heap.size _ (.slice (some ⟨B9, 0, none⟩) n9 c9) (kt ++ List.replicate 64 0) from own_far (p := ⟨H, 3, none⟩) (own_far (p := ⟨H, 2, none⟩) (own_far (p := ⟨H, 1, none⟩) (own_far (p := ⟨H, 0, none⟩) (own_below O5.out b6) HB7.out (by decide) (.slice A7 n7 c7)) (HB7.out.set_ 0 _) (by decide) (.bool s'.dn)) ((HB7.out.set_ 0 _).set_ 1 _) (by decide) (.bool a7)) (((HB7.out.set_ 0 _).set_ 1 _).set_ 2 _) (by decide) (.int .i64 lf7))
                clear hst b6 b6' HB6 HB7 s7
                obtain ⟨w7, hw7⟩ : ∃ w7, (((w6.setCell ⟨H, 0, none⟩ (.slice A7 n7 c7)).setCell ⟨H, 1, none⟩ (.bool s'.dn)).setCell ⟨H, 2, none⟩ (.bool a7)).setCell ⟨H, 3, none⟩ (.int .i64 lf7) = w7 := ⟨_, rfl⟩
                rw [hw7] at K7 C7 O7 ⊢
                clear hw7
                have f9 := (show World.ownsRow w7 W.heap.size TU8 1 (.slice (some ⟨B9, 0, none⟩) n9 c9) n9 (bc (kt ++ List.replicate 64 0)) from by
                  have h1 := O7.out
                  unfold OwB at h1
                  rw [← HL9.out] at h1
                  exact h1).frozenAt 0
                obtain ⟨x0, k0⟩ : ∃ x0 : Nat, w7.cell? ⟨B9, 0, none⟩ = some (.int .u8 (x0 : Int)) := by
                  obtain ⟨b', o', e', hc'⟩ := (OwB.rv O7.out).at_ (by omega)
                  injection e' with e'
                  injection e' with e1 e2
                  subst e1 e2
                  have hl0 : 0 < (kt ++ List.replicate 64 0).length := by rw [← HL9.out]; omega
                  exact ⟨_, hc' 0 (.int .u8 (((kt ++ List.replicate 64 0)[0] : Nat) : Int)) (by unfold bc; rw [List.getElem?_map, List.getElem?_eq_getElem hl0]; rfl)⟩
                obtain ⟨cs9, hcs9⟩ := own_lt' (own_lower O7.out (Nat.zero_le _)) (show (Value.slice (some ⟨B9, 0, none⟩) n9 c9).ownBlock = some B9 from rfl)
                have HC9 := Lib.hid (show Blk w7 B9 TU8 cs9 from hcs9)
                clear hcs9
                go_wp2_with fail
                go_meet
                exact ⟨er, s', _, _, rfl, rfl, ((K7.out.poke (Chg.setB (X := XU B9) HC9.out ⟨rfl, _, rfl⟩ _ _) (by have := HB9.out; omega) (Nat.le_trans (Ext.size HK.out.ex) HB9.out.1)).wk fun _ _ => trivial), ((C7.out.poke (Chg.setB (X := XU B9) HC9.out ⟨rfl, _, rfl⟩ _ _) (by have := HB9.out; omega)).wk fun _ _ => trivial), AP5.out⟩
          case rest =>
            as_aux_lemma =>
                obtain ⟨er, s', F', G', rfl, rfl, hk, hc, hap⟩ := hcut
                have K5 := Lib.hid hk
                have C5 := Lib.hid hc
                have AP5 := Lib.hid hap
                clear hk hc hap K4 C4 AP4' O4 k4 HKS HRS
                obtain ⟨w5, rfl⟩ : ∃ w5, w5 = wc := ⟨_, rfl⟩
                obtain ⟨A6, n6, c6, a6, lf6, hb6, hv6⟩ := K5.out.rd
                have HV6 := Lib.hid hv6
                have HB6 := Lib.hid hb6
                have k6 := hb6.cells
                have f6 := hb6.free
                simp only [cellsAre, Nat.zero_add, Nat.reduceAdd, and_true] at k6
                unfold rdk at HV6
                clear hb6 hv6
                clear f6 k6
                have hdn := K5.out.dw.dw.len (by have := K5.out.n8; omega)
                obtain ⟨gb_, mp_, cap_, hdk⟩ := hdn
                have HDN := Lib.hid (fun (Wx : World) (hx : Ext w5 Wx) => rdown_at d _ _ _ _ Wx (hdk.below hx))
                have HLO := Lib.hid (fun (Wx : World) (hx : Ext w5 Wx) => rloose_ok (K5.out.dw.dw.ext hx))
                have HRL := Lib.hid (fun (Wx : World) (hx : Ext w5 Wx) => zloose_any (HV6.out.ext hx) (by have := K5.out.n8; omega) (fun k => Nat.le_trans (K5.out.few k) (by omega)))
                have HBL := Lib.hid (fun (Wx : World) (hx : Ext w5 Wx) => rblocked_any (K5.out.dw.dw.ext hx) (HV6.out.ext hx) (by have := K5.out.n8; omega) (fun k => Nat.le_trans (K5.out.few k) (by omega)))
                clear hdk
                rw [looC_looL] at HLO
                obtain ⟨ll, hll⟩ : ∃ ll, looL s'.bl = ll := ⟨_, rfl⟩
                obtain ⟨dn', hdn'⟩ : ∃ dn', s'.dn = dn' := ⟨_, rfl⟩
                rw [hll] at HLO HRL
                go_upto_region 39 with fail
                have hst : Ext w5 w5.drew := Ext.drew _
                have kH := fun w' (hh : Ext w5 w') => (HB6.out.below hh).cells
                simp only [cellsAre, Nat.zero_add, Nat.reduceAdd, and_true] at kH
                clear hll hdn'
                refine wp_region_brn (S := (Ext w5)) (by kernel_rfl) (by kernel_rfl) (fun _ _ _ _ _ => ⟨fun h => h, fun h => h⟩) ?_
                intro hsel_ hQ_
                obtain ⟨wd, hwd⟩ : ∃ wd, w5.drew = wd := ⟨_, rfl⟩
                rw [hwd] at hst ⊢
                clear hwd
                refine wpB_chunk (f := 0) (L' := #[true, true, true, true, true, true, true, true, true, true, true, true, true, true, true, true, true, true, true, true, true, true, true]) hsel_ hQ_ [(0, true, some 209, none), (1, true, some 210, none), (2, true, some 211, none), (3, true, some 212, none), (4, true, some 213, some (212, false)), (6, true, some 215, some (212, false)), (7, true, some 216, some (212, false)), (5, false, some 214, some (212, false)), (8, true, some 217, some (212, false)), (9, true, some 218, none), (10, true, some 219, none), (11, true, some 220, some (219, false)), (13, true, some 222, some (219, false)), (12, false, some 221, some (219, false)), (14, false, some 223, some (219, false)), (15, true, some 224, some (219, false)), (16, true, some 225, none), (17, true, some 226, none), (18, true, some 227, some (226, false)), (19, true, some 228, some (226, false)), (20, false, some 229, some (226, false)), (21, true, some 230, some (226, false)), (22, true, some 231, none)] _ _ _ (by kernel_rfl) hst ?_
                repeat (first | (refine wpSeqB_pure (v := ?_) rfl ?_ ?_; rotate_left 1; (focus (intro wq_ hSq_; (try dsimp only at hSq_); go_simp; (try with_reducible rfl); done)); (try simp only [Act.put, List.setIfInBounds_toArray, List.set_cons_zero, List.set_cons_succ])) | (refine wpSeqB_pureG (v := ?_) rfl rfl ?_ ?_; rotate_left 1; (focus (intro wq_ hSq_; (try dsimp only at hSq_); go_simp; (try with_reducible rfl); done)); (try simp only [Act.put, List.setIfInBounds_toArray, List.set_cons_zero, List.set_cons_succ])) | (refine wpSeqB_off rfl rfl ?_; (try simp only [Act.put, List.setIfInBounds_toArray, List.set_cons_zero, List.set_cons_succ])) | (refine wpSeqB_offU rfl ?_; (try simp only [Act.put, List.setIfInBounds_toArray, List.set_cons_zero, List.set_cons_succ])))
                first | refine wpSeqB_call rfl (fun K hK => ?_) | refine wpSeqB_callG rfl rfl (fun K hK => ?_)
                go_simp
                refine (HDN.out wd hst).mono ?_
                rintro e y1 ⟨z1, rfl, rfl, b1⟩
                have s1 := bt hst b1
                clear b1
                (try go_wp2_with fail)
                refine hK.out _ _ s1 ?_
                clear hK K
                (try simp only [List.getElem_toArray, List.getElem_cons_succ, List.getElem_cons_zero, Act.put, List.setIfInBounds_toArray, List.set_cons_zero, List.set_cons_succ])
                repeat (first | (refine wpSeqB_pure (v := ?_) rfl ?_ ?_; rotate_left 1; (focus (intro wq_ hSq_; (try dsimp only at hSq_); go_simp; (try with_reducible rfl); done)); (try simp only [Act.put, List.setIfInBounds_toArray, List.set_cons_zero, List.set_cons_succ])) | (refine wpSeqB_pureG (v := ?_) rfl rfl ?_ ?_; rotate_left 1; (focus (intro wq_ hSq_; (try dsimp only at hSq_); go_simp; (try with_reducible rfl); done)); (try simp only [Act.put, List.setIfInBounds_toArray, List.set_cons_zero, List.set_cons_succ])) | (refine wpSeqB_off rfl rfl ?_; (try simp only [Act.put, List.setIfInBounds_toArray, List.set_cons_zero, List.set_cons_succ])) | (refine wpSeqB_offU rfl ?_; (try simp only [Act.put, List.setIfInBounds_toArray, List.set_cons_zero, List.set_cons_succ])))
                first | refine wpSeqB_call rfl (fun K hK => ?_) | refine wpSeqB_callG rfl rfl (fun K hK => ?_)
                go_simp
                refine (HLO.out y1 s1).mono ?_
                rintro e y2 ⟨z2, rfl, rfl, b2⟩
                have s2 := bt s1 b2
                clear b2
                (try go_wp2_with fail)
                refine hK.out _ _ s2 ?_
                clear hK K
                (try simp only [List.getElem_toArray, List.getElem_cons_succ, List.getElem_cons_zero, Act.put, List.setIfInBounds_toArray, List.set_cons_zero, List.set_cons_succ])
                repeat (first | (refine wpSeqB_pure (v := ?_) rfl ?_ ?_; rotate_left 1; (focus (intro wq_ hSq_; (try dsimp only at hSq_); go_simp; (try with_reducible rfl); done)); (try simp only [Act.put, List.setIfInBounds_toArray, List.set_cons_zero, List.set_cons_succ])) | (refine wpSeqB_pureG (v := ?_) rfl rfl ?_ ?_; rotate_left 1; (focus (intro wq_ hSq_; (try dsimp only at hSq_); go_simp; (try with_reducible rfl); done)); (try simp only [Act.put, List.setIfInBounds_toArray, List.set_cons_zero, List.set_cons_succ])) | (refine wpSeqB_off rfl rfl ?_; (try simp only [Act.put, List.setIfInBounds_toArray, List.set_cons_zero, List.set_cons_succ])) | (refine wpSeqB_offU rfl ?_; (try simp only [Act.put, List.setIfInBounds_toArray, List.set_cons_zero, List.set_cons_succ])))
                first | refine wpSeqB_call rfl (fun K hK => ?_) | refine wpSeqB_callG rfl rfl (fun K hK => ?_)
                go_simp
                refine (HRL.out y2 s2).mono ?_
                rintro e y3 ⟨z3, rfl, rfl, b3⟩
                have s3 := bt s2 b3
                clear b3
                (try go_wp2_with fail)
                refine hK.out _ _ s3 ?_
                clear hK K
                (try simp only [List.getElem_toArray, List.getElem_cons_succ, List.getElem_cons_zero, Act.put, List.setIfInBounds_toArray, List.set_cons_zero, List.set_cons_succ])
                repeat (first | (refine wpSeqB_pure (v := ?_) rfl ?_ ?_; rotate_left 1; (focus (intro wq_ hSq_; (try dsimp only at hSq_); go_simp; (try with_reducible rfl); done)); (try simp only [Act.put, List.setIfInBounds_toArray, List.set_cons_zero, List.set_cons_succ])) | (refine wpSeqB_pureG (v := ?_) rfl rfl ?_ ?_; rotate_left 1; (focus (intro wq_ hSq_; (try dsimp only at hSq_); go_simp; (try with_reducible rfl); done)); (try simp only [Act.put, List.setIfInBounds_toArray, List.set_cons_zero, List.set_cons_succ])) | (refine wpSeqB_off rfl rfl ?_; (try simp only [Act.put, List.setIfInBounds_toArray, List.set_cons_zero, List.set_cons_succ])) | (refine wpSeqB_offU rfl ?_; (try simp only [Act.put, List.setIfInBounds_toArray, List.set_cons_zero, List.set_cons_succ])))
                first | refine wpSeqB_call rfl (fun K hK => ?_) | refine wpSeqB_callG rfl rfl (fun K hK => ?_)
                go_simp
                refine (HBL.out y3 s3).mono ?_
                rintro e y4 ⟨z4, rfl, rfl, b4⟩
                have s4 := bt s3 b4
                clear b4
                (try go_wp2_with fail)
                refine hK.out _ _ s4 ?_
                clear hK K
                (try simp only [List.getElem_toArray, List.getElem_cons_succ, List.getElem_cons_zero, Act.put, List.setIfInBounds_toArray, List.set_cons_zero, List.set_cons_succ])
                repeat (first | (refine wpSeqB_pure (v := ?_) rfl ?_ ?_; rotate_left 1; (focus (intro wq_ hSq_; (try dsimp only at hSq_); go_simp; (try with_reducible rfl); done)); (try simp only [Act.put, List.setIfInBounds_toArray, List.set_cons_zero, List.set_cons_succ])) | (refine wpSeqB_pureG (v := ?_) rfl rfl ?_ ?_; rotate_left 1; (focus (intro wq_ hSq_; (try dsimp only at hSq_); go_simp; (try with_reducible rfl); done)); (try simp only [Act.put, List.setIfInBounds_toArray, List.set_cons_zero, List.set_cons_succ])) | (refine wpSeqB_off rfl rfl ?_; (try simp only [Act.put, List.setIfInBounds_toArray, List.set_cons_zero, List.set_cons_succ])) | (refine wpSeqB_offU rfl ?_; (try simp only [Act.put, List.setIfInBounds_toArray, List.set_cons_zero, List.set_cons_succ])))
                intro s_
                clear s_
                refine wpB_end (by kernel_rfl) ?_
                have K9 := Lib.hid (K5.out.ext s4)
                have C9 := Lib.hid (C5.out.ext s4)
                clear kH hst s1 s2 s3 s4 HDN HLO HRL HBL HV6 HB6 hsel_ hQ_ K5 C5
                have wi : IntKind.i64.wrap ((i : Int) + 1) = ((i + 1 : Nat) : Int) := by rw [IntWalk.i64_in _ (by omega)]; rfl
                by_cases h3 : i % 3 = 2
                · have p3 : (i : Int) % 3 = 2 := by omega
                  clear h3
                  as_aux_lemma =>
                    obtain ⟨sc, hc1, hc8, hcf⟩ := C9.out.dw
                    have HC1 := Lib.hid (And.intro hc1 (And.intro hc8 hcf))
                    clear hc1 hc8 hcf
                    go_wp2_with fail
                    refine (dw_restart (s := sc) (F := Fw G' y4) (HC1.out.1.dw.mono fun b h => Or.inl h) (fun b hb => Or.inr hb) (by have := HC1.out.2.1; omega) none 0 0 [] (fun Wx _ => Rv.nil Wx 1) (fun b hb => by cases hb) (HC1.out.2.2.mono (by omega))).mono ?_
                    rintro e y5 ⟨⟨v5, rfl⟩, hd5, hc5⟩
                    have K10 := Lib.hid (K9.out.cstep hc5 (fun b hb => (C9.out.gb b hb).1) AP5.out)
                    have hok := rsT_ok sc [] (m := 1) (by omega)
                    obtain ⟨s2, hs2⟩ : ∃ s2, rsT sc [] = s2 := ⟨_, rfl⟩
                    rw [hs2] at hd5 hok
                    have D5 := Lib.hid (And.intro (hd5.n.mono (N' := fun _ => True) (F' := Fw G' y4) (fun _ _ => trivial) fun _ h => h).old (And.intro (hok.1.trans HC1.out.2.1) hok.2))
                    have GB := Lib.hid (show ∀ b, (Fw G' y4 b ∧ b < y5.heap.size) → w.heap.size ≤ b ∧ ¬ F' b from fun b hb => by
                      rcases hb.1 with h | h
                      · exact ⟨(C9.out.gb b h).1, AP5.out b h⟩
                      · exact ⟨Nat.le_trans (Ext.size K9.out.ex) h, fun hf => Nat.lt_irrefl _ (Nat.lt_of_lt_of_le (K9.out.fb b hf).2 h)⟩)
                    clear hd5 hc5 hok hs2
                    have hmk := make_64 y5
                    have x6 : Ext y5 (y5.alloc (.cells (bc z64).toArray TU8)) := Ext.allocR _ _
                    have O6 := Lib.hid (make_64_own y5 0 (Nat.zero_le _))
                    have K11 := Lib.hid (K10.out.ext x6)
                    have D6 := Lib.hid (And.intro (D5.out.1.ext x6) D5.out.2)
                    have SZ6 := Lib.hid (Ext.size x6)
                    obtain ⟨y6, hy6⟩ : ∃ y6, y5.alloc (.cells (bc z64).toArray TU8) = y6 := ⟨_, rfl⟩
                    rw [hy6] at hmk O6 K11 D6 SZ6
                    clear hy6 x6
                    go_wp2_with fail
                    refine (dw_write (N := fun _ => True) (F := Fw (fun b => Fw G' y4 b ∧ b < y5.heap.size) y6) (s := s2) (D6.out.1.mono (fun _ _ => trivial) fun b h => Or.inl h) (fun b hb => Or.inr hb) (fun _ _ => trivial) (by have := D6.out.2.1; omega) 0 (fun Wx hc => OwB.rv (show OwB 0 Wx (.slice (some ⟨y5.heap.size, 0, none⟩) 64 64) z64 from hc.own O6.out fun b cs _ => MF.u8 b cs)) (by unfold z64; rw [List.length_replicate]) (D6.out.2.2.mono (by omega))).mono ?_
                    rintro e y7 ⟨rfl, hd7, hc7⟩
                    have K12 := Lib.hid (K11.out.cstep hc7 (fun b hb => (GB.out b hb).1) fun b hb => (GB.out b hb).2)
                    clear hd7 hc7 hmk
                    obtain ⟨A8, n8, c8, a8, lf8, hb8, hv8⟩ := K12.out.rd
                    have k8 := hb8.cells
                    simp only [cellsAre, Nat.zero_add, Nat.reduceAdd, and_true] at k8
                    have HBL8 := Lib.hid (rblocked_any K12.out.dw.dw hv8 (by have := K12.out.n8; omega) (fun k => Nat.le_trans (K12.out.few k) (by omega)))
                    unfold rdk at HBL8
                    clear hb8 hv8
                    go_wp2_with fail
                    refine HBL8.out.mono ?_
                    rintro e y8 ⟨z8, rfl, rfl, b8⟩
                    have K13 := Lib.hid (K12.out.ext b8)
                    clear b8 HBL8 k8
                    go_wp2_with fail
                    refine (rdclone_n (K13.out.dw) (by have := K13.out.n8; omega) (fun k => Nat.le_trans (K13.out.few k) (by omega))).mono ?_
                    rintro e y9 ⟨z9, rfl, ⟨d9, rfl, hc9⟩, b9⟩
                    have K14 := Lib.hid (show DkS (fun _ => True) (fun b => y8.heap.size ≤ b ∧ b < y9.heap.size) w y9 H d9 (i + 2) s' s' from
                      ⟨bt K13.out.ex b9, hc9, fun b hb => ⟨Nat.le_trans (Ext.size K13.out.ex) hb.1, hb.2⟩, (K13.out.ext b9).rd, K13.out.hi, K13.out.n8, K13.out.few⟩)
                    clear hc9 b9
                    go_wp2_with fail
                    go_roundw
                    case rel =>
                      exact ⟨i + 1, d9, s', _, by omega, by omega, rfl, by go_num, K14.out⟩
                    case measure => simp [intOf]; omega
                · have p3 : ¬ (i : Int) % 3 = 2 := by omega
                  clear h3
                  go_wp2_with fail
                  go_roundw
                  case rel =>
                    exact ⟨i + 1, d, s', F', by omega, by omega, rfl, by go_num, K9.out⟩
                  case measure => simp [intOf]; omega
        · obtain rfl : i = 40 := by omega
          go_wp2_with fail
          go_returns
          exact ⟨_, rfl, rfl, HK.out.ex⟩
      · obtain rfl : i = nx := by omega
        go_wp2_with fail
        go_returns
        exact ⟨_, rfl, rfl, HK.out.ex⟩
end Go.Proofs.Tb
