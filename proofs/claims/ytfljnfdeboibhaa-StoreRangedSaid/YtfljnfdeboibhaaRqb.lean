/- The reference's Commit, where its rows must lie in some blocks alone. -/
import Derived.Test.YtfljnfdeboibhaaTwb
set_option linter.unusedVariables false
set_option linter.unusedSimpArgs false
namespace Go.Proofs.Tb
open Go.Maps Go.RowKit Go.Lib
attribute [local go_sem] cell_set_same neqMapL

/-- The reference's store; the rows of its versions lie in these blocks. -/
def RSn (N : Nat → Prop) (w : World) (v : Value) (Vs : List (List Pr)) (keep : Nat) : Prop :=
  ∃ A n c zs, v = .agg #[.slice A n c, .int .i64 (keep : Int)] ∧ w.ownsRow 0 TPS 1 (.slice A n c) Vs.length zs ∧ RowsP 0 w zs Vs ∧ (∀ b, (Value.slice A n c).ownBlock = some b → N b) ∧ ∀ z ∈ zs, ∀ b, z.ownBlock = some b → N b
theorem RSn.rs {N : Nat → Prop} {w : World} {v : Value} {Vs : List (List Pr)} {keep : Nat} (h : RSn N w v Vs keep) : RSv w v Vs keep := by
  obtain ⟨A, n, c, zs, e, h1, h2, _, _⟩ := h
  exact ⟨A, n, c, e, zs, h1, h2⟩
theorem own_blt {w : World} {base k n : Nat} {T : TypeId} {v : Value} {xs : List Value} (h : w.ownsRow base T k v n xs) : ∀ b, v.ownBlock = some b → b < w.heap.size := fun b hb => by
  rcases h.2 with ⟨e, _⟩ | ⟨g, cap, cur, e, _, h2, _⟩
  · rw [e] at hb; cases hb
  · rw [e] at hb
    simp only [Value.ownBlock, Option.some.injEq] at hb
    subst hb
    exact obj_lt h2
theorem RowsP.mem {base : Nat} {w : World} {zs : List Value} {ls : List (List Pr)} (h : RowsP base w zs ls) {z : Value} (hz : z ∈ zs) : ∃ l, OwP base w z l := by
  obtain ⟨i, hi, rfl⟩ := List.mem_iff_getElem.1 hz
  have := h.2 i (by rw [← h.1]; exact hi)
  rw [show zs.getD i nlP = zs[i] by simp [List.getD, hi]] at this
  exact ⟨_, this⟩
theorem RSv.sep {w : World} {v : Value} {Vs : List (List Pr)} {keep : Nat} (h : RSv w v Vs keep) {N : Nat → Prop} (hN : ∀ b, b < w.heap.size → N b) : RSn N w v Vs keep := by
  obtain ⟨A, n, c, e, zs, h1, h2⟩ := h
  exact ⟨A, n, c, zs, e, h1, h2, fun b hb => hN b (own_blt h1 b hb), fun z hz b hb => by
    obtain ⟨l, hl⟩ := h2.mem hz
    exact hN b (own_blt hl b hb)⟩
theorem RSn.imp {N M : Nat → Prop} {w : World} {v : Value} {Vs : List (List Pr)} {keep : Nat} (h : RSn N w v Vs keep) (hi : ∀ b, N b → b < w.heap.size → M b) : RSn M w v Vs keep := by
  obtain ⟨A, n, c, zs, e, h1, h2, h4, h3⟩ := h
  exact ⟨A, n, c, zs, e, h1, h2, fun b hb => hi b (h4 b hb) (own_blt h1 b hb), fun z hz b hb => by
    obtain ⟨l, hl⟩ := h2.mem hz
    exact hi b (h3 z hz b hb) (own_blt hl b hb)⟩
theorem RSn.chg {N : Nat → Prop} {X : Nat → Obj → Prop} {w w' : World} {v : Value} {Vs : List (List Pr)} {keep : Nat} (h : RSn N w v Vs keep) (hc : Chg X w w') (hX : ∀ b cs, N b → ¬ X b (.cells cs TPA (0, 0))) (hX2 : ∀ b cs, N b → ¬ X b (.cells cs TPS (0, 0))) : RSn N w' v Vs keep := by
  obtain ⟨A, n, c, zs, e, h1, h2, h4, h3⟩ := h
  refine ⟨A, n, c, zs, e, hc.own h1 fun b cs hb => hX2 b cs (h4 b hb), ⟨h2.1, fun i hi => hc.own (h2.2 i hi) fun b cs hb => hX b cs (h3 (zs.getD i nlP) ?_ b hb)⟩, h4, h3⟩
  rw [List.getD_eq_getElem?_getD, List.getElem?_eq_getElem (by rw [h2.1]; exact hi)]
  exact List.getElem_mem _
set_option maxHeartbeats 6400000 in
set_option maxRecDepth 100000 in
theorem zcommit_n {w : World} {N : Nat → Prop} (hN : ∀ b, w.heap.size ≤ b → N b) {rv : Value} {Vs : List (List Pr)} {keep : Nat} (h : RSn N w rv Vs keep) (hp : 1 ≤ Vs.length) (hl : Vs.length ≤ 100000) {L : List Pr} (hL : Vs.getD (Vs.length - 1) [] = L) (hLl : L.length ≤ 100000)
    (A2 : Option Addr) (n2 c2 : Nat) (cs : List Cg) (h2 : Rv w 3 A2 n2 c2 (ccs cs)) (hcs : cs.length ≤ 1000) :
    Calls Try.prog 18 #[rv, .slice A2 n2 c2] w (Ret (fun z w' => RSn N w' z (Vs ++ [aft L cs]) keep) w) := by
  have hh := h.rs
  obtain ⟨A, n, c, zs, rfl, ho, hr, _, hsp⟩ := h
  have hn : n = Vs.length := by
    obtain ⟨A', c', e, _⟩ := own_rv ho
    injection e
  have hle := (own_rvv ho).le
  have hcp := (own_rvv ho).cap
  have HSP := Lib.hid (And.intro hsp hN)
  clear hsp hN
  rw [← hn] at ho hp
  obtain ⟨b, o, rfl, hc⟩ := (own_rvv ho).at_ (by omega)
  obtain ⟨q, hq⟩ : ∃ q, Vs.length - 1 = q := ⟨_, rfl⟩
  have hqn : q < n := by omega
  have hnq : (n : Int) - 1 = (q : Int) := by omega
  obtain ⟨z, hz⟩ : ∃ z, zs.getD q nlP = z := ⟨_, rfl⟩
  have hzl : zs.length = n := by rw [hr.1, hn]
  have hrz := hr.2 q (by omega)
  rw [hz, ← hq, hL] at hrz
  obtain ⟨Az, cz, rfl, hrz2⟩ := OwP.rv hrz
  have kz := hc q (.slice Az L.length cz) (by rw [← hz]; simp [List.getD, show q < zs.length by omega])
  obtain ⟨nz, hnz⟩ : ∃ nz, L.length = nz := ⟨_, rfl⟩
  rw [hnz] at kz hrz2 hLl
  have KZ := Lib.hid kz
  have HRZ := Lib.hid hrz2
  have HNZ := Lib.hid hnz
  have HO := Lib.hid ho
  have HR := Lib.hid hr
  have H := Lib.hid hh
  have H2 := Lib.hid h2
  have HN := Lib.hid hn
  have HNQ := Lib.hid hnq
  have hle2 := h2.le
  have hcp2 := h2.cap
  have hnl : n ≤ 100000 := by omega
  have hHL := Lib.hid hl
  have HZL := Lib.hid hzl
  clear hh h2 hn hc hq hz hzl hrz hrz2 hnz ho hr kz hnq hL hl
  go_enter Try.func18, Try.ntmps18
  go_upto_region 1 with fail
  obtain ⟨W1, hW1⟩ : ∃ W1, W1 = (w.alloc (.cells #[.slice (some ⟨b, o, none⟩) n c, .int .i64 (keep : Int)] TRS)).alloc (.cells #[.slice none 0 0, .int .i64 0] TRS) := ⟨_, rfl⟩
  have hb1 : Blk W1 w.heap.size TRS #[.slice (some ⟨b, o, none⟩) n c, .int .i64 (keep : Int)] := by rw [hW1]; exact (Blk.new_ _ _ rfl).alloc _
  have hb2 : Blk W1 (w.heap.size + 1) TRS #[.slice none 0 0, .int .i64 0] := by rw [hW1]; exact Blk.new_ _ _ (by simp)
  have hx1 : Ext w W1 := by rw [hW1]; exact bt (Ext.allocR _ _) (Ext.allocR _ _)
  rw [← hW1]
  have k1 := hb1.cells
  simp only [cellsAre, Nat.zero_add, Nat.reduceAdd, and_true] at k1
  have HB := Lib.hid (And.intro hb1 hb2)
  have X1 := Lib.hid hx1
  have hs1 := hb1.lt
  clear hb1 hb2 hx1 hW1
  go_upto_region 2 with (at_builtin; refine wpl_appR TPV TPS (.slice none 0 0) 1 24 ps_info Try.underlying26 rfl (by omega) (by omega) rfl _ _ rfl W1.heap.size (.slice (some ⟨W1.heap.size, 0, none⟩) 0 0) 0 [] rfl (own_lit TPS 1 #[] 0 (Nat.le_refl _) (by omega) rfl) (some ⟨b, o, none⟩) n c zs rfl ((own_rvv HO.out).below (bt X1.out (Ext.allocR _ _))) HR.out.one (by omega) (by omega) (by simp) ?_; intro v5 w5 o5 g5 b5; obtain ⟨A5, c5, ev5, _⟩ := own_rv o5; subst ev5; have HZ := Lib.hid (And.intro o5 (show Ext W1 w5 from Below.trans (Ext.allocR _ _) b5)); clear o5 g5 b5)
  have hS5 : SC w w.heap.size (.slice (some ⟨b, o, none⟩) n c) keep w5 := ⟨bt X1.out HZ.out.2, HB.out.1.below HZ.out.2⟩
  have hS0 : SC w w.heap.size (.slice (some ⟨b, o, none⟩) n c) keep w5.drew := ⟨bt hS5.1 (Ext.drew _), hS5.2.below (Ext.drew _)⟩
  have kb := fun w' (hh : SC w w.heap.size (.slice (some ⟨b, o, none⟩) n c) keep w') => hh.2.cells
  have kz := fun w' (hh : SC w w.heap.size (.slice (some ⟨b, o, none⟩) n c) keep w') => ext_cell hh.1 KZ.out
  simp only [cellsAre, Nat.zero_add, Nat.reduceAdd, and_true] at kb
  have hX0 : Ext w5 w5.drew := Ext.drew _
  clear hS5 k1
  refine wp_region_brn (S := (SC w w.heap.size (.slice (some ⟨b, o, none⟩) n c) keep)) (by kernel_rfl) (by kernel_rfl) (fun _ _ _ _ _ => ⟨fun h => h, fun h => h⟩) ?_
  intro hsel_ hQ_
  obtain ⟨wd, hwd⟩ : ∃ wd, w5.drew = wd := ⟨_, rfl⟩
  rw [hwd] at hS0 hX0 ⊢
  clear hwd
  refine wpB_chunk (f := 0) (L' := #[true, true, true, true, true, true, true, true, true, true, true, true, true, true, true]) hsel_ hQ_ [(0, true, some 10, none), (1, true, some 11, none), (2, true, some 12, none), (3, true, some 13, none), (7, true, some 17, none), (11, true, some 21, none), (12, true, some 22, none), (4, false, some 14, none), (5, true, some 15, none), (6, true, some 16, none), (8, false, some 18, none), (9, false, some 19, none), (10, false, some 20, none), (13, true, some 23, none), (14, false, none, none)] _ _ _ (by kernel_rfl) hS0 ?_
  repeat (first | (refine wpSeqB_pure (v := ?_) rfl ?_ ?_; rotate_left 1; (focus (intro wq_ hSq_; (try dsimp only at hSq_); go_simp; (try with_reducible rfl); done)); (try simp only [Act.put, List.setIfInBounds_toArray, List.set_cons_zero, List.set_cons_succ])) | (refine wpSeqB_pureG (v := ?_) rfl rfl ?_ ?_; rotate_left 1; (focus (intro wq_ hSq_; (try dsimp only at hSq_); go_simp; (try with_reducible rfl); done)); (try simp only [Act.put, List.setIfInBounds_toArray, List.set_cons_zero, List.set_cons_succ])) | (refine wpSeqB_off rfl rfl ?_; (try simp only [Act.put, List.setIfInBounds_toArray, List.set_cons_zero, List.set_cons_succ])) | (refine wpSeqB_offU rfl ?_; (try simp only [Act.put, List.setIfInBounds_toArray, List.set_cons_zero, List.set_cons_succ])))
  first | refine wpSeqB_call rfl (fun K hK => ?_) | refine wpSeqB_callG rfl rfl (fun K hK => ?_)
  go_simp
  refine (znewest_any (H.out.ext hS0.1) (by have := hHL.out; omega)).mono ?_
  rintro e y1 ⟨z1, rfl, rfl, b1⟩
  rw [← HN.out, HNQ.out]
  have s1 : SC w w.heap.size (.slice (some ⟨b, o, none⟩) n c) keep y1 := ⟨bt hS0.1 b1, hS0.2.below b1⟩
  have X1' := Lib.hid (show Ext w5 y1 from bt hX0 b1)
  clear b1
  refine hK.out _ _ s1 ?_
  clear hK K
  (try simp only [List.getElem_toArray, List.getElem_cons_succ, List.getElem_cons_zero, Act.put, List.setIfInBounds_toArray, List.set_cons_zero, List.set_cons_succ])
  repeat (first | (refine wpSeqB_pure (v := ?_) rfl ?_ ?_; rotate_left 1; (focus (intro wq_ hSq_; (try dsimp only at hSq_); go_simp; (try with_reducible rfl); done)); (try simp only [Act.put, List.setIfInBounds_toArray, List.set_cons_zero, List.set_cons_succ])) | (refine wpSeqB_pureG (v := ?_) rfl rfl ?_ ?_; rotate_left 1; (focus (intro wq_ hSq_; (try dsimp only at hSq_); go_simp; (try with_reducible rfl); done)); (try simp only [Act.put, List.setIfInBounds_toArray, List.set_cons_zero, List.set_cons_succ])) | (refine wpSeqB_off rfl rfl ?_; (try simp only [Act.put, List.setIfInBounds_toArray, List.set_cons_zero, List.set_cons_succ])) | (refine wpSeqB_offU rfl ?_; (try simp only [Act.put, List.setIfInBounds_toArray, List.set_cons_zero, List.set_cons_succ])))
  first | refine wpSeqB_call rfl (fun K hK => ?_) | refine wpSeqB_callG rfl rfl (fun K hK => ?_)
  go_simp
  refine (zafter_any Az nz cz L A2 n2 c2 cs y1 (HRZ.out.below s1.1) (H2.out.below s1.1) (by have := HNZ.out; omega) hcs).mono ?_
  rintro e y2 ⟨z2, rfl, o2, b2⟩
  have s2 : SC w w.heap.size (.slice (some ⟨b, o, none⟩) n c) keep y2 := ⟨bt s1.1 b2, s1.2.below b2⟩
  have X2' := Lib.hid (show Ext w5 y2 from bt X1'.out b2)
  have O2 := Lib.hid (own_lower o2 (Nat.zero_le _))
  have O2g := own_geE o2
  obtain ⟨A7, c7, ez2, _⟩ := OwP.rv o2
  obtain ⟨n7, hn7⟩ : ∃ n7, (aft L cs).length = n7 := ⟨_, rfl⟩
  rw [hn7] at ez2
  subst ez2
  have OG := Lib.hid (show ∀ b, (Value.slice A7 n7 c7).ownBlock = some b → N b from fun b hb => HSP.out.2 b (Nat.le_trans (Ext.size s1.1) (O2g b hb)))
  clear O2g
  clear b2 o2 hn7
  refine hK.out _ _ s2 ?_
  clear hK K
  (try simp only [List.getElem_toArray, List.getElem_cons_succ, List.getElem_cons_zero, Act.put, List.setIfInBounds_toArray, List.set_cons_zero, List.set_cons_succ])
  repeat (first | (refine wpSeqB_pure (v := ?_) rfl ?_ ?_; rotate_left 1; (focus (intro wq_ hSq_; (try dsimp only at hSq_); go_simp; (try with_reducible rfl); done)); (try simp only [Act.put, List.setIfInBounds_toArray, List.set_cons_zero, List.set_cons_succ])) | (refine wpSeqB_pureG (v := ?_) rfl rfl ?_ ?_; rotate_left 1; (focus (intro wq_ hSq_; (try dsimp only at hSq_); go_simp; (try with_reducible rfl); done)); (try simp only [Act.put, List.setIfInBounds_toArray, List.set_cons_zero, List.set_cons_succ])) | (refine wpSeqB_off rfl rfl ?_; (try simp only [Act.put, List.setIfInBounds_toArray, List.set_cons_zero, List.set_cons_succ])) | (refine wpSeqB_offU rfl ?_; (try simp only [Act.put, List.setIfInBounds_toArray, List.set_cons_zero, List.set_cons_succ])))
  first | refine wpSeqB_call rfl (fun K hK => ?_) | refine wpSeqB_callG rfl rfl (fun K hK => ?_)
  go_simp
  have x3 : Ext y2 (y2.alloc (.cells #[.slice A7 n7 c7] TPS)) := Ext.allocR _ _
  have s3 : SC w w.heap.size (.slice (some ⟨b, o, none⟩) n c) keep (y2.alloc (.cells #[.slice A7 n7 c7] TPS)) := ⟨bt s2.1 x3, s2.2.below x3⟩
  have HR3 := Lib.hid (rv_lit (w := y2) TPS 1 #[.slice A7 n7 c7] 1 (by omega) rfl)
  have X3' := Lib.hid (bt X2'.out x3)
  have O3 := Lib.hid (own_below O2.out x3)
  obtain ⟨y3, hy3⟩ : ∃ y3, y2.alloc (.cells #[.slice A7 n7 c7] TPS) = y3 := ⟨_, rfl⟩
  obtain ⟨b3, hb3⟩ : ∃ b3, y2.heap.size = b3 := ⟨_, rfl⟩
  rw [hy3] at s3 HR3 X3' O3 ⊢
  rw [hb3] at HR3 ⊢
  clear x3 hy3 hb3
  refine hK.out _ _ s3 ?_
  clear hK K
  (try simp only [List.getElem_toArray, List.getElem_cons_succ, List.getElem_cons_zero, Act.put, List.setIfInBounds_toArray, List.set_cons_zero, List.set_cons_succ])
  repeat (first | (refine wpSeqB_pure (v := ?_) rfl ?_ ?_; rotate_left 1; (focus (intro wq_ hSq_; (try dsimp only at hSq_); go_simp; (try with_reducible rfl); done)); (try simp only [Act.put, List.setIfInBounds_toArray, List.set_cons_zero, List.set_cons_succ])) | (refine wpSeqB_pureG (v := ?_) rfl rfl ?_ ?_; rotate_left 1; (focus (intro wq_ hSq_; (try dsimp only at hSq_); go_simp; (try with_reducible rfl); done)); (try simp only [Act.put, List.setIfInBounds_toArray, List.set_cons_zero, List.set_cons_succ])) | (refine wpSeqB_off rfl rfl ?_; (try simp only [Act.put, List.setIfInBounds_toArray, List.set_cons_zero, List.set_cons_succ])) | (refine wpSeqB_offU rfl ?_; (try simp only [Act.put, List.setIfInBounds_toArray, List.set_cons_zero, List.set_cons_succ])))
  first | refine wpSeqB_call rfl (fun K hK => ?_) | refine wpSeqB_callG rfl rfl (fun K hK => ?_)
  refine wp_appR TPV TPS (.slice none 0 0) 1 24 ps_info Try.underlying26 rfl (by omega) (by omega) _ _ (by rfl) W1.heap.size (.slice A5 n c5) n zs (by rfl) (own_below (by have h1 := HZ.out.1; rw [Nat.zero_add] at h1; exact h1) X3'.out) (some ⟨b3, 0, none⟩) 1 1 [.slice A7 n7 c7] (by rfl) HR3.out (slc_one1 _ _ _) (by omega) (by omega) (Nat.le_trans (Ext.size HZ.out.2) (Ext.size X3'.out)) ?_
  intro v6 w6 o6 g6 b6
  obtain ⟨A6, c6, ev6, _⟩ := own_rv o6
  subst ev6
  have hb6 : Blk w6 w.heap.size TRS #[.slice (some ⟨b, o, none⟩) n c, .int .i64 (keep : Int)] := grow_blk g6 (own_below (by have h1 := HZ.out.1; rw [Nat.zero_add] at h1; exact h1) X3'.out) (show TPS ≠ TRS by decide) s3.2
  have hr6 : Blk w6 (w.heap.size + 1) TRS #[.slice none 0 0, .int .i64 0] := grow_blk g6 (own_below (by have h1 := HZ.out.1; rw [Nat.zero_add] at h1; exact h1) X3'.out) (show TPS ≠ TRS by decide) ((HB.out.2.below HZ.out.2).below X3'.out)
  have hx6 : Ext w w6 := Below.trans s3.1 (Below.mono b6 (Ext.size X1.out))
  have s6 : SC w w.heap.size (.slice (some ⟨b, o, none⟩) n c) keep w6 := ⟨hx6, hb6⟩
  have HV := Lib.hid (show World.ownsRow w6 0 TPS 1 (.slice A6 (n + 1) c6) (Vs ++ [aft L cs]).length (zs ++ [.slice A7 n7 c7]) ∧ RowsP 0 w6 (zs ++ [.slice A7 n7 c7]) (Vs ++ [aft L cs]) from ⟨by rw [List.length_append, List.length_singleton, ← HN.out]; exact own_lower o6 (Nat.zero_le _), (HR.out.ext hx6).snoc (own_keep O3.out fun g cs _ _ hb => (grow_blk g6 (own_below (by have h1 := HZ.out.1; rw [Nat.zero_add] at h1; exact h1) X3'.out) (show TPS ≠ TPA by decide) hb).trans hb.symm)⟩)
  have OG6 := Lib.hid (show ∀ b, (Value.slice A6 (n + 1) c6).ownBlock = some b → N b from fun b hb => HSP.out.2 b (Nat.le_trans (Ext.size X1.out) (own_geE o6 b hb)))
  have k6 := hr6.cells
  have f6 := hr6.free
  simp only [cellsAre, Nat.zero_add, Nat.reduceAdd, and_true] at k6
  have HR6 := Lib.hid hr6
  clear o6 g6 b6 hb6 hr6
  refine hK.out _ _ s6 ?_
  clear hK K
  (try simp only [List.getElem_toArray, List.getElem_cons_succ, List.getElem_cons_zero, Act.put, List.setIfInBounds_toArray, List.set_cons_zero, List.set_cons_succ])
  repeat (first | (refine wpSeqB_pure (v := ?_) rfl ?_ ?_; rotate_left 1; (focus (intro wq_ hSq_; (try dsimp only at hSq_); go_simp; (try with_reducible rfl); done)); (try simp only [Act.put, List.setIfInBounds_toArray, List.set_cons_zero, List.set_cons_succ])) | (refine wpSeqB_pureG (v := ?_) rfl rfl ?_ ?_; rotate_left 1; (focus (intro wq_ hSq_; (try dsimp only at hSq_); go_simp; (try with_reducible rfl); done)); (try simp only [Act.put, List.setIfInBounds_toArray, List.set_cons_zero, List.set_cons_succ])) | (refine wpSeqB_off rfl rfl ?_; (try simp only [Act.put, List.setIfInBounds_toArray, List.set_cons_zero, List.set_cons_succ])) | (refine wpSeqB_offU rfl ?_; (try simp only [Act.put, List.setIfInBounds_toArray, List.set_cons_zero, List.set_cons_succ])))
  first | refine wpSeqB_call rfl (fun K hK => ?_) | refine wpSeqB_callG rfl rfl (fun K hK => ?_)
  go_simp
  have B9 := (HR6.out.set_ 0 (.slice A6 (n + 1) c6)).set_ 1 (.int .i64 (keep : Int))
  have x9 : Below w.heap.size w6 ((w6.setCell ⟨w.heap.size + 1, 0, none⟩ (.slice A6 (n + 1) c6)).setCell ⟨w.heap.size + 1, 1, none⟩ (.int .i64 (keep : Int))) := ((Below.refl _ _).setCell (p := ⟨w.heap.size + 1, 0, none⟩) (by simp) _).setCell (p := ⟨w.heap.size + 1, 1, none⟩) (by simp) _
  obtain ⟨y9, hy9⟩ : ∃ y9, (w6.setCell ⟨w.heap.size + 1, 0, none⟩ (.slice A6 (n + 1) c6)).setCell ⟨w.heap.size + 1, 1, none⟩ (.int .i64 (keep : Int)) = y9 := ⟨_, rfl⟩
  have hv9 : World.ownsRow y9 0 TPS 1 (.slice A6 (n + 1) c6) (Vs ++ [aft L cs]).length (zs ++ [.slice A7 n7 c7]) ∧ RowsP 0 y9 (zs ++ [.slice A7 n7 c7]) (Vs ++ [aft L cs]) := by
    rw [← hy9]
    have c9 : Chg (fun b o => b = w.heap.size + 1 ∧ ∃ cs, o = .cells cs TRS (0, 0)) w6 ((w6.setCell ⟨w.heap.size + 1, 0, none⟩ (.slice A6 (n + 1) c6)).setCell ⟨w.heap.size + 1, 1, none⟩ (.int .i64 (keep : Int))) := (Chg.setB HR6.out ⟨rfl, _, rfl⟩ _ _).trans (Chg.setB (HR6.out.set_ 0 _) ⟨rfl, _, rfl⟩ _ _)
    have n9 : ∀ (T : TypeId), T ≠ TRS → ∀ (b : Nat) (cs : Array Value), ¬ (b = w.heap.size + 1 ∧ ∃ cs', Obj.cells cs T (0, 0) = .cells cs' TRS (0, 0)) := fun T hT b cs hX => by
      obtain ⟨_, cs', hX⟩ := hX
      injection hX with _ hX
      exact hT hX
    exact ⟨c9.own HV.out.1 fun b cs _ => n9 _ (by decide) b cs, HV.out.2.1, fun i hi => (HV.out.2.2 i hi).chg c9 (n9 _ (by decide))⟩
  rw [hy9] at B9 x9 ⊢
  have hx9 : Ext w y9 := Below.trans s6.1 x9
  have s9 : SC w w.heap.size (.slice (some ⟨b, o, none⟩) n c) keep y9 := ⟨hx9, by rw [← hy9]; exact (s6.2.far (p := ⟨w.heap.size + 1, 0, none⟩) (by simp) _).far (p := ⟨w.heap.size + 1, 1, none⟩) (by simp) _⟩
  have B9' : Blk y9 (w.heap.size + 1) TRS #[.slice A6 (n + 1) c6, .int .i64 (keep : Int)] := B9
  have k9 := B9'.cells
  simp only [cellsAre, Nat.zero_add, Nat.reduceAdd, and_true] at k9
  refine hK.out _ _ s9 ?_
  clear hK K k6 f6 hy9 x9 B9 B9'
  intro s_
  refine wpB_end (by kernel_rfl) ?_
  clear s_ kb kz hS0 hX0 s1 s2 s3 s6
  go_wp2_with fail
  (try simp only [Exit.inBlock, Exit.then])
  refine bodyPost_ret (v := (.agg #[.slice A6 (n + 1) c6, .int .i64 (keep : Int)])) (by simp [results, Try.results18, go_sem, *]) rfl ?_
  exact ⟨_, rfl, ⟨A6, n + 1, c6, _, rfl, hv9.1, hv9.2, OG6.out, fun z hz => by
    rcases List.mem_append.1 hz with hz | hz
    · exact HSP.out.1 z hz
    · rw [List.mem_singleton.1 hz]; exact OG.out⟩, hx9⟩
end Go.Proofs.Tb
