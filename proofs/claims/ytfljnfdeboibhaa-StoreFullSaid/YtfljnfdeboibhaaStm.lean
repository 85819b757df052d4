/- Contracts of sum and of the writer's done. -/
import Derived.Test.YtfljnfdeboibhaaStj
import Derived.Deep.CutBlock
set_option linter.unusedVariables false
set_option linter.unusedSimpArgs false
namespace Go.Proofs.Tb
open Go.RowKit
attribute [local go_sem] cell_set_same

theorem u32_or (x y : Nat) (hx : x < 4294967296) (hy : y < 4294967296) : bits .or .u32 (x : Int) (y : Int) = ((x ||| y : Nat) : Int) := by
  have e : bits .or .u32 (x : Int) (y : Int) = IntKind.u32.wrap ((BitVec.ofInt 32 (x : Int) ||| BitVec.ofInt 32 (y : Int)).toNat : Int) := rfl
  have h1 : (BitVec.ofInt 32 (x : Int) ||| BitVec.ofInt 32 (y : Int)).toNat = x ||| y := by
    rw [BitVec.ofInt_natCast, BitVec.ofInt_natCast, BitVec.toNat_or, BitVec.toNat_ofNat, BitVec.toNat_ofNat, Nat.mod_eq_of_lt (by omega), Nat.mod_eq_of_lt (by omega)]
  have h2 : x ||| y < 4294967296 := Nat.or_lt_two_pow (n := 32) hx hy
  rw [e, h1]
  show ((x ||| y : Nat) : Int) % (2 : Int) ^ 32 = _
  omega
theorem rot5_lt (x : Nat) (hx : x < 4294967296) : rot5 x < 4294967296 := by
  unfold rot5
  exact Nat.or_lt_two_pow (n := 32) (Nat.mod_lt _ (by decide)) (by show x / 134217728 < 2 ^ 32; omega)
set_option maxHeartbeats 6400000 in
set_option maxRecDepth 100000 in
theorem rrot_any (x : Nat) (hx : x < 4294967296) (w : World) : Calls Try.prog 108 #[.int .u32 (x : Int), .int .i64 5] w (Ret (fun v _ => v = .int .u32 (rot5 x : Int)) w) := by
  have h5 : bits .and .u64 5 31 = 5 := by decide
  have hor : bits .or .u32 ((x : Int) * 32 % 4294967296) ((x : Int) / 134217728) = (rot5 x : Int) := by
    have h := u32_or (x * 32 % 4294967296) (x / 134217728) (by omega) (by omega)
    have e1 : ((x * 32 % 4294967296 : Nat) : Int) = (x : Int) * 32 % 4294967296 := by omega
    have e2 : ((x / 134217728 : Nat) : Int) = (x : Int) / 134217728 := by omega
    rw [e1, e2] at h
    exact h
  have HO := Lib.hid hor
  clear hor
  go_enter Try.func108, Try.ntmps108
  go_wp2
  go_returns
  exact ⟨_, rfl, by rw [← HO.out]; rfl, Below.refl _ _⟩
set_option maxHeartbeats 6400000 in
set_option maxRecDepth 100000 in
theorem rsum_any (A : Option Addr) (n c : Nat) (bs : List Nat) (w : World) (h : Rv w 1 A n c (bc bs)) (hn : n ≤ 1000) (hb : ∀ b ∈ bs, b < 256) :
    Calls Try.prog 102 #[.slice A n c] w (Ret (fun v _ => v = .int .i64 (sumB bs : Int)) w) := by
  have hl : bs.length = n := by have := h.len; rw [bc_len, Nat.mul_one] at this; exact this
  have hle := h.le
  have hcap := h.cap
  have HL := Lib.hid hl
  have H := Lib.hid h
  have HB := Lib.hid hb
  have s0 : IntKind.u32.wrap ((n : Int) + 1) = (sumK bs 0 : Int) := by rw [sumK_zero, hl, IntKind.wrap_u32]; omega
  have w0 : IntKind.u32.wrap (n : Int) = (n : Int) := by rw [IntKind.wrap_u32]; omega
  clear h hb hl
  go_enter Try.func102, Try.ntmps102
  go_wp2
  go_loopw [3, 12] (fun s i wr => ∃ k : Nat, k ≤ n ∧ i = .int .i64 (k : Int) ∧ s = .int .u32 (sumK bs k : Int) ∧ Ext w wr) (fun _ i _ => n - (intOf i).toNat)
  case atStart => exact ⟨0, by omega, rfl, rfl, Ext.refl _⟩
  case round =>
    clear s0
    obtain ⟨k, hk, rfl, rfl, hx⟩ := hrel
    have HX := Lib.hid hx
    have hsl := sumK_lt bs k
    by_cases hkn : k < n
    · have pk : (k : Int) < (n : Int) := by omega
      obtain ⟨b, o, rfl, hc⟩ := (H.out.below hx).at_ (by omega)
      have hkl : k < bs.length := by rw [HL.out]; exact hkn
      obtain ⟨y, hy⟩ : ∃ y, bs.getD k 0 = y := ⟨_, rfl⟩
      have ck := hc k (.int .u8 (y : Int)) (by unfold bc; rw [List.getElem?_map, List.getElem?_eq_getElem hkl, ← hy]; simp [List.getD, hkl])
      have hyl : y < 256 := HB.out y (by rw [← hy, List.getD_eq_getElem?_getD, List.getElem?_eq_getElem hkl]; exact List.getElem_mem hkl)
      have HN := Lib.hid (sumK_succ hkl)
      rw [hy] at HN
      obtain ⟨x, hxx⟩ : ∃ x, sumK bs k = x := ⟨_, rfl⟩
      rw [hxx] at HN hsl ⊢
      have hr5 := rot5_lt x hsl
      obtain ⟨q, hq⟩ : ∃ q, rot5 x = q := ⟨_, rfl⟩
      have HN2 := Lib.hid (show (sumK bs (k + 1) : Int) = (((q * 31 % 4294967296 + y) % 4294967296 + 7) % 4294967296 : Nat) by rw [HN.out]; unfold sumS; rw [hq])
      have HQ := Lib.hid hq
      rw [hq] at hr5
      have wq : IntKind.u32.wrap ((q : Int) * 31) = ((q * 31 % 4294967296 : Nat) : Int) := by rw [IntKind.wrap_u32]; omega
      have wy : IntKind.u32.wrap (y : Int) = (y : Int) := by rw [IntKind.wrap_u32]; omega
      obtain ⟨q1, hq1⟩ : ∃ q1, q * 31 % 4294967296 = q1 := ⟨_, rfl⟩
      rw [hq1] at wq HN2
      have wq2 : IntKind.u32.wrap ((q1 : Int) + (y : Int)) = (((q1 + y) % 4294967296 : Nat) : Int) := by rw [IntKind.wrap_u32]; omega
      obtain ⟨q2, hq2⟩ : ∃ q2, (q1 + y) % 4294967296 = q2 := ⟨_, rfl⟩
      rw [hq2] at wq2 HN2
      have wq3 : IntKind.u32.wrap ((q2 : Int) + 7) = (((q2 + 7) % 4294967296 : Nat) : Int) := by rw [IntKind.wrap_u32]; omega
      obtain ⟨q3, hq3⟩ : ∃ q3, (q2 + 7) % 4294967296 = q3 := ⟨_, rfl⟩
      rw [hq3] at wq3 HN2
      clear hc hx hxx hq hq1 hq2 hq3 hy
      go_wp2_with fail
      refine (rrot_any x hsl wr).mono ?_
      rintro e w1 ⟨z1, rfl, rfl, b1⟩
      rw [HQ.out]
      have X1 := Lib.hid (bt HX.out b1)
      clear b1 ck
      go_wp2
      go_roundw
      case rel => exact ⟨k + 1, by omega, by go_num, by rw [HN2.out], X1.out⟩
      case measure => simp [intOf]; omega
    · obtain rfl : k = n := by omega
      have HE := Lib.hid (show sumK bs k = sumB bs by rw [← sumK_end, HL.out])
      have wE : IntKind.i64.wrap (sumK bs k : Int) = (sumK bs k : Int) := IntWalk.i64_in _ (by omega)
      clear hx
      go_wp2
      go_returns
      exact ⟨_, rfl, by rw [← HE.out]; rfl, HX.out⟩
set_option maxHeartbeats 6400000 in
set_option maxRecDepth 100000 in
theorem rdone_any (base wp : Nat) (bs : List Nat) (w : World) (h : WrW base wp w bs) (hw : base ≤ wp) (hl : bs.length ≤ 60) (hb : ∀ b ∈ bs, b < 256) :
    Calls Try.prog 101 #[.pointer (some ⟨wp, 0, none⟩)] w fun e w' => ∃ A c, e = .returned (.slice A 64 c) ∧ OwB base w' (.slice A 64 c) (blkB bs) ∧ Below base w w' := by
  obtain ⟨A1, n1, c1, k1, o1⟩ := h.form
  have hwl := k1.lt
  have kc := k1.cells
  simp only [cellsAre, Nat.zero_add, Nat.reduceAdd, and_true] at kc
  have hn1 : bs.length = n1 := o1.1 |> fun h' => by
    obtain ⟨A, c, e, _⟩ := own_rv o1
    injection e with _ e2 _
    exact e2.symm
  have HO := Lib.hid (And.intro k1 o1)
  obtain ⟨k, hk⟩ : ∃ k, 60 - n1 = k := ⟨_, rfl⟩
  have wk : IntKind.i64.wrap (60 - (n1 : Int)) = (k : Int) := by rw [IntWalk.i64_in _ (by omega)]; omega
  have HE := Lib.hid (show bs ++ List.replicate k 0 = endB bs by unfold endB; rw [hn1, hk])
  have hst0 : Ext w w.drew := Ext.drew _
  have hEl := endB_len hl
  have hEb := Lib.hid (show ∀ b ∈ endB bs, b < 256 from fun b hm => by
    unfold endB at hm
    rcases List.mem_append.1 hm with hm | hm
    · exact hb b hm
    · rw [List.mem_replicate] at hm; omega)
  clear h k1 o1 hb
  go_enter Try.func101, Try.ntmps101
  go_upto_region 1 with fail
  go_cut [] (fun wx => WrW base wp wx (endB bs) ∧ Below base w wx)
  case first =>
    refine wp_region_brn (S := (fun _ => True)) (by kernel_rfl) (by kernel_rfl) (fun _ _ _ _ _ => ⟨fun h => h, fun h => h⟩) ?_
    intro hsel_ hQ_
    obtain ⟨wd, hwd⟩ : ∃ wd, w.drew = wd := ⟨_, rfl⟩
    rw [hwd] at hst0 ⊢
    have HD := Lib.hid (And.intro (HO.out.1.below hst0) (own_below HO.out.2 hst0))
    have kd := HD.out.1.cells
    simp only [cellsAre, Nat.zero_add, Nat.reduceAdd, and_true] at kd
    have hbd : base ≤ wd.heap.size := by have := Ext.size hst0; omega
    have hbw : base ≤ w.heap.size := by omega
    clear hwd kc
    refine wpB_chunk (f := 8) (L' := #[true, true, true, true, false, true, true, true, false, false, false, false, false, false, false]) hsel_ hQ_ [(0, true, some 3, none), (1, true, some 4, none), (2, true, some 5, none), (3, true, some 6, none), (5, true, some 8, none), (6, true, some 9, none), (7, true, some 10, none)] _ _ _ (by kernel_rfl) trivial ?_
    repeat (first | (refine wpSeqB_pure (v := ?_) rfl ?_ ?_; rotate_left 1; (focus (intro wq_ hSq_; (try dsimp only at hSq_); go_simp; (try with_reducible rfl); done)); (try simp only [Act.put, List.setIfInBounds_toArray, List.set_cons_zero, List.set_cons_succ])) | (refine wpSeqB_pureG (v := ?_) rfl rfl ?_ ?_; rotate_left 1; (focus (intro wq_ hSq_; (try dsimp only at hSq_); go_simp; (try with_reducible rfl); done)); (try simp only [Act.put, List.setIfInBounds_toArray, List.set_cons_zero, List.set_cons_succ])) | (refine wpSeqB_off rfl rfl ?_; (try simp only [Act.put, List.setIfInBounds_toArray, List.set_cons_zero, List.set_cons_succ])) | (refine wpSeqB_offU rfl ?_; (try simp only [Act.put, List.setIfInBounds_toArray, List.set_cons_zero, List.set_cons_succ])))
    intro s0
    clear s0
    refine wpB_two 4 8 (by kernel_rfl) rfl rfl rfl rfl ?_ ?_
    · intro K hK
      go_simp
      refine hK.out _ _ trivial ?_
      clear hK K
      (try simp only [List.getElem_toArray, List.getElem_cons_succ, List.getElem_cons_zero, Act.put, List.setIfInBounds_toArray, List.set_cons_zero, List.set_cons_succ])
      refine wpB_chunk (f := 0) (L' := #[true, true, true, true, true, true, true, true, true, true, true, true, true, true, true]) hsel_ hQ_ [(8, false, some 11, none), (9, true, some 12, none), (10, true, some 13, none), (11, false, some 14, none), (12, true, some 15, none), (13, true, some 16, none), (14, false, none, none)] _ _ _ (by kernel_rfl) trivial ?_
      repeat (first | (refine wpSeqB_pure (v := ?_) rfl ?_ ?_; rotate_left 1; (focus (intro wq_ hSq_; (try dsimp only at hSq_); go_simp; (try with_reducible rfl); done)); (try simp only [Act.put, List.setIfInBounds_toArray, List.set_cons_zero, List.set_cons_succ])) | (refine wpSeqB_pureG (v := ?_) rfl rfl ?_ ?_; rotate_left 1; (focus (intro wq_ hSq_; (try dsimp only at hSq_); go_simp; (try with_reducible rfl); done)); (try simp only [Act.put, List.setIfInBounds_toArray, List.set_cons_zero, List.set_cons_succ])) | (refine wpSeqB_off rfl rfl ?_; (try simp only [Act.put, List.setIfInBounds_toArray, List.set_cons_zero, List.set_cons_succ])) | (refine wpSeqB_offU rfl ?_; (try simp only [Act.put, List.setIfInBounds_toArray, List.set_cons_zero, List.set_cons_succ])))
      first | refine wpSeqB_call rfl (fun K hK => ?_) | refine wpSeqB_callG rfl rfl (fun K hK => ?_)
      go_simp
      refine hK.out _ _ trivial ?_
      clear hK K
      (try simp only [List.getElem_toArray, List.getElem_cons_succ, List.getElem_cons_zero, Act.put, List.setIfInBounds_toArray, List.set_cons_zero, List.set_cons_succ])
      repeat (first | (refine wpSeqB_pure (v := ?_) rfl ?_ ?_; rotate_left 1; (focus (intro wq_ hSq_; (try dsimp only at hSq_); go_simp; (try with_reducible rfl); done)); (try simp only [Act.put, List.setIfInBounds_toArray, List.set_cons_zero, List.set_cons_succ])) | (refine wpSeqB_pureG (v := ?_) rfl rfl ?_ ?_; rotate_left 1; (focus (intro wq_ hSq_; (try dsimp only at hSq_); go_simp; (try with_reducible rfl); done)); (try simp only [Act.put, List.setIfInBounds_toArray, List.set_cons_zero, List.set_cons_succ])) | (refine wpSeqB_off rfl rfl ?_; (try simp only [Act.put, List.setIfInBounds_toArray, List.set_cons_zero, List.set_cons_succ])) | (refine wpSeqB_offU rfl ?_; (try simp only [Act.put, List.setIfInBounds_toArray, List.set_cons_zero, List.set_cons_succ])))
      first | refine wpSeqB_call rfl (fun K hK => ?_) | refine wpSeqB_callG rfl rfl (fun K hK => ?_)
      refine wp_appZ _ _ (by rfl) base (.slice A1 n1 c1) bs (by rfl) HD.out.2 k (by rfl) (by omega) (by omega) hbd ?_
      intro A2 n2 c2 w2 o2 b2 g2
      have hgr := WrW.grow HD.out.1 HD.out.2 o2 g2
      have kc2 := hgr.1.cells
      have fc2 := Blk.free hgr.1 0
      have HG := Lib.hid (And.intro hgr.2 ((Below.mono hst0 hbw).trans b2))
      simp only [cellsAre, Nat.zero_add, Nat.reduceAdd, and_true] at kc2
      refine hK.out _ _ trivial ?_
      clear hK K hgr b2 g2 o2
      (try simp only [List.getElem_toArray, List.getElem_cons_succ, List.getElem_cons_zero, Act.put, List.setIfInBounds_toArray, List.set_cons_zero, List.set_cons_succ])
      repeat (first | (refine wpSeqB_pure (v := ?_) rfl ?_ ?_; rotate_left 1; (focus (intro wq_ hSq_; (try dsimp only at hSq_); go_simp; (try with_reducible rfl); done)); (try simp only [Act.put, List.setIfInBounds_toArray, List.set_cons_zero, List.set_cons_succ])) | (refine wpSeqB_pureG (v := ?_) rfl rfl ?_ ?_; rotate_left 1; (focus (intro wq_ hSq_; (try dsimp only at hSq_); go_simp; (try with_reducible rfl); done)); (try simp only [Act.put, List.setIfInBounds_toArray, List.set_cons_zero, List.set_cons_succ])) | (refine wpSeqB_off rfl rfl ?_; (try simp only [Act.put, List.setIfInBounds_toArray, List.set_cons_zero, List.set_cons_succ])) | (refine wpSeqB_offU rfl ?_; (try simp only [Act.put, List.setIfInBounds_toArray, List.set_cons_zero, List.set_cons_succ])))
      first | refine wpSeqB_call rfl (fun K hK => ?_) | refine wpSeqB_callG rfl rfl (fun K hK => ?_)
      go_simp
      refine hK.out _ _ trivial ?_
      clear hK K
      (try simp only [List.getElem_toArray, List.getElem_cons_succ, List.getElem_cons_zero, Act.put, List.setIfInBounds_toArray, List.set_cons_zero, List.set_cons_succ])
      intro s_
      refine wpB_end (by kernel_rfl) ?_
      go_wp2_with fail
      go_meet
      exact ⟨by rw [← HE.out]; exact HG.out.1, HG.out.2.setCell hw _⟩
    · intro K hK
      go_simp
      refine hK.out _ _ trivial ?_
      clear hK K
      (try simp only [List.getElem_toArray, List.getElem_cons_succ, List.getElem_cons_zero, Act.put, List.setIfInBounds_toArray, List.set_cons_zero, List.set_cons_succ])
      refine wpB_chunk (f := 0) (L' := #[true, true, true, true, true, true, true, true, true, true, true, true, true, true, true]) hsel_ hQ_ [(9, true, some 12, none), (10, true, some 13, none), (4, false, some 7, none), (11, false, some 14, none), (12, true, some 15, none), (13, true, some 16, none), (14, false, none, none)] _ _ _ (by kernel_rfl) trivial ?_
      repeat (first | (refine wpSeqB_pure (v := ?_) rfl ?_ ?_; rotate_left 1; (focus (intro wq_ hSq_; (try dsimp only at hSq_); go_simp; (try with_reducible rfl); done)); (try simp only [Act.put, List.setIfInBounds_toArray, List.set_cons_zero, List.set_cons_succ])) | (refine wpSeqB_pureG (v := ?_) rfl rfl ?_ ?_; rotate_left 1; (focus (intro wq_ hSq_; (try dsimp only at hSq_); go_simp; (try with_reducible rfl); done)); (try simp only [Act.put, List.setIfInBounds_toArray, List.set_cons_zero, List.set_cons_succ])) | (refine wpSeqB_off rfl rfl ?_; (try simp only [Act.put, List.setIfInBounds_toArray, List.set_cons_zero, List.set_cons_succ])) | (refine wpSeqB_offU rfl ?_; (try simp only [Act.put, List.setIfInBounds_toArray, List.set_cons_zero, List.set_cons_succ])))
      first | refine wpSeqB_call rfl (fun K hK => ?_) | refine wpSeqB_callG rfl rfl (fun K hK => ?_)
      go_simp
      refine hK.out _ _ trivial ?_
      clear hK K
      (try simp only [List.getElem_toArray, List.getElem_cons_succ, List.getElem_cons_zero, Act.put, List.setIfInBounds_toArray, List.set_cons_zero, List.set_cons_succ])
      first | refine wpSeqB_call rfl (fun K hK => ?_) | refine wpSeqB_callG rfl rfl (fun K hK => ?_)
      refine wp_appZ _ _ (by rfl) base (.slice A1 n1 c1) bs (by rfl) HD.out.2 k (by rfl) (by omega) (by omega) hbd ?_
      intro A2 n2 c2 w2 o2 b2 g2
      have hgr := WrW.grow HD.out.1 HD.out.2 o2 g2
      have kc2 := hgr.1.cells
      have fc2 := Blk.free hgr.1 0
      have HG := Lib.hid (And.intro hgr.2 ((Below.mono hst0 hbw).trans b2))
      simp only [cellsAre, Nat.zero_add, Nat.reduceAdd, and_true] at kc2
      refine hK.out _ _ trivial ?_
      clear hK K hgr b2 g2 o2
      (try simp only [List.getElem_toArray, List.getElem_cons_succ, List.getElem_cons_zero, Act.put, List.setIfInBounds_toArray, List.set_cons_zero, List.set_cons_succ])
      repeat (first | (refine wpSeqB_pure (v := ?_) rfl ?_ ?_; rotate_left 1; (focus (intro wq_ hSq_; (try dsimp only at hSq_); go_simp; (try with_reducible rfl); done)); (try simp only [Act.put, List.setIfInBounds_toArray, List.set_cons_zero, List.set_cons_succ])) | (refine wpSeqB_pureG (v := ?_) rfl rfl ?_ ?_; rotate_left 1; (focus (intro wq_ hSq_; (try dsimp only at hSq_); go_simp; (try with_reducible rfl); done)); (try simp only [Act.put, List.setIfInBounds_toArray, List.set_cons_zero, List.set_cons_succ])) | (refine wpSeqB_off rfl rfl ?_; (try simp only [Act.put, List.setIfInBounds_toArray, List.set_cons_zero, List.set_cons_succ])) | (refine wpSeqB_offU rfl ?_; (try simp only [Act.put, List.setIfInBounds_toArray, List.set_cons_zero, List.set_cons_succ])))
      first | refine wpSeqB_call rfl (fun K hK => ?_) | refine wpSeqB_callG rfl rfl (fun K hK => ?_)
      go_simp
      refine hK.out _ _ trivial ?_
      clear hK K
      (try simp only [List.getElem_toArray, List.getElem_cons_succ, List.getElem_cons_zero, Act.put, List.setIfInBounds_toArray, List.set_cons_zero, List.set_cons_succ])
      intro s_
      refine wpB_end (by kernel_rfl) ?_
      go_wp2_with fail
      go_meet
      exact ⟨by rw [← HE.out]; exact HG.out.1, HG.out.2.setCell hw _⟩
  case rest =>
    obtain ⟨hw2, hb2⟩ := hcut
    obtain ⟨A2, n2, c2, k2, o2⟩ := hw2.form
    have kc2 := k2.cells
    simp only [cellsAre, Nat.zero_add, Nat.reduceAdd, and_true] at kc2
    obtain ⟨A2', c2', e2, r2⟩ := own_rv o2
    injection e2 with f1 f2 f3
    subst f1 f3
    have HR := Lib.hid r2
    rw [← f2] at HR
    obtain rfl : n2 = 60 := by rw [f2]; exact hEl
    have HW2 := Lib.hid hw2
    have HB2 := Lib.hid hb2
    have r2le := HR.out.le
    have r2cap := HR.out.cap
    clear kc hw2 hb2 k2 o2 r2 f2
    go_wp2_with fail
    refine (rsum_any A2 60 c2 (endB bs) wc HR.out (by omega) hEb.out).mono ?_
    rintro e w3 ⟨z3, rfl, rfl, b3⟩
    obtain ⟨S, hS⟩ : ∃ S, sumB (endB bs) = S := ⟨_, rfl⟩
    have hSl := sumB_lt (endB bs)
    rw [hS] at hSl ⊢
    have HS := Lib.hid hS
    have HW3 := Lib.hid (show WrW base wp w3 (endB bs) from by
      obtain ⟨v, h1, h2⟩ := HW2.out
      exact ⟨v, h1.below b3, own_below h2 b3⟩)
    have HB3 := Lib.hid (show Below base w w3 from HB2.out.trans (Below.mono b3 (by
      have := HB2.out.size
      omega)))
    clear b3 hS kc2
    go_wp2_with fail
    refine (rnum_any base wp (endB bs) S 4 w3 HW3.out hw (by omega) (by omega) (by omega)).mono ?_
    rintro e w4 ⟨⟨z4, rfl⟩, hw4, hb4, _⟩
    obtain ⟨A4, n4, c4, k4, o4⟩ := hw4.form
    have kc4 := k4.cells
    simp only [cellsAre, Nat.zero_add, Nat.reduceAdd, and_true] at kc4
    have hBB : endB bs ++ beB S 4 = blkB bs := by unfold blkB; rw [HS.out]
    rw [hBB] at o4
    have hn4 : n4 = 64 := by
      obtain ⟨A', c', e', _⟩ := own_rv o4
      injection e' with _ e2 _
      rw [e2, blkB_len hl]
    subst hn4
    have HZ := Lib.hid (And.intro o4 (HB3.out.trans hb4))
    clear hw4 hb4 k4 o4 hBB
    go_wp2
    go_returns
    exact ⟨A4, c4, rfl, HZ.out.1, HZ.out.2⟩
end Go.Proofs.Tb
