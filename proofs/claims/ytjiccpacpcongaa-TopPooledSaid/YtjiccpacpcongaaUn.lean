/- Engrave. -/
import Derived.Test.YtjiccpacpcongaaUm
set_option linter.unusedVariables false
set_option linter.unusedSimpArgs false
namespace Go.Proofs.Tb
open Go.RowKit Go.Lib
attribute [local go_sem] cell_set_same

theorem XC.own {bs : List Nat} {s base : Nat} {w w' : World} {v : Value} {l : List Int} (hc : Chg (XC bs s) w w') (ho : OwC base w v l) (h1 : ∀ b, b ∈ bs → ∃ (T : TypeId) (cs : Array Value), Blk w b T cs ∧ TIN ≠ T) (h2 : w.heap.size ≤ s) : OwC base w' v l :=
  hc.own ho fun b cs hb hX => by
    rcases hX with hX | hX
    · obtain ⟨T, ds, hB, hT⟩ := h1 b hX
      exact own_tag ho hT b hb _ _ hB
    · have := own_lt ho b hb
      omega
theorem XC.one {bw s base : Nat} {w w' : World} {v : Value} {l : List Int} {cs : Array Value} (hc : Chg (XC [bw] s) w w') (ho : OwC base w v l) (hb : Blk w bw TLI cs) (h2 : w.heap.size ≤ s) : OwC base w' v l :=
  hc.own ho fun b cs hb' hX => by
    rcases hX with hX | hX
    · rw [List.mem_singleton] at hX
      subst hX
      exact own_tag ho (show TIN ≠ TLI by decide) b hb' _ _ hb
    · have := own_lt ho b hb'
      omega
def wdL (q : Nat) (l : List Int) (k : Nat) : List Int := (List.range k).map fun (x : Nat) => hv (q : Int) l (x : Int)
theorem wdL_len (q : Nat) (l : List Int) (k : Nat) : (wdL q l k).length = k := by unfold wdL; simp
theorem wdL_succ (q : Nat) (l : List Int) (k : Nat) : wdL q l (k + 1) = wdL q l k ++ [hv (q : Int) l (k : Int)] := by
  unfold wdL
  rw [List.range_succ, List.map_append]
  rfl
set_option maxHeartbeats 6400000 in
set_option maxRecDepth 100000 in
theorem rengraveC_any {q n m c bq bp bn bw : Nat} {A : Option Addr} {l : List Int} (hq : Q4 q) (w : World) (hl : OwC 0 w (.slice A m c) l) (h1m : 1 ≤ m) (hmn : m ≤ n) (hnq : n ≤ q) (hr : ∀ a ∈ l, 0 ≤ a ∧ a < (q : Int))
    (h1 : Blk w bq TIN #[.int .i64 (q : Int)]) (h2 : Blk w bp TLI #[.slice A m c]) (h3 : Blk w bn TIN #[.int .i64 (n : Int)]) (h4 : Blk w bw TLI #[.slice none 0 0]) (hd1 : bq ∉ [bw]) (hd2 : bp ∉ [bw]) (hd3 : bn ∉ [bw]) :
    Calls Try.prog 13 #[.pointer (some ⟨bq, 0, none⟩), .pointer (some ⟨bp, 0, none⟩), .pointer (some ⟨bn, 0, none⟩), .pointer (some ⟨bw, 0, none⟩)] w fun e w' => e = .returned (.tuple #[]) ∧ Chg (XC [bw] w.heap.size) w w' ∧ ∃ A' c', Blk w' bw TLI #[.slice A' n c'] ∧ OwC w.heap.size w' (.slice A' n c') (wdL q l n) := by
  have hb : 5 ≤ q ∧ q ≤ 13 := by rcases hq with h | h | h | h <;> omega
  obtain ⟨hb1, hb2⟩ := hb
  have hln := hl.len
  have HOV := Lib.hid (fun w' => rover_any hq w')
  have HEL := Lib.hid (fun (w' : World) (hh : Ext w w') => relements_any (q := q) w' (hl.below hh).rv hln (by omega) hr)
  have HVA := Lib.hid (fun (w' : World) (x : Nat) (hx : x < n) (hh : OwC 0 w' (.slice A m c) l) => rvalue_any (q := q) (by omega) (by omega) (x := (x : Int)) (by omega) w' hh.rv hln (by omega) hr)
  have HB := Lib.hid (And.intro h1 (And.intro h2 (And.intro h3 h4)))
  have HBL := Lib.hid (And.intro h1.lt (And.intro h2.lt (And.intro h3.lt h4.lt)))
  have HD := Lib.hid (And.intro hd1 (And.intro hd2 hd3))
  have HL := Lib.hid hl
  have k1 := h1.cells
  have k2 := h2.cells
  simp only [cellsAre, Nat.zero_add, Nat.reduceAdd, and_true] at k1 k2
  have hle := hl.rv.le
  have hcp := hl.rv.cap
  have p1 : (1 : Int) ≤ (m : Int) := by omega
  have p2 : (m : Int) ≤ (n : Int) := by omega
  have p3 : (n : Int) ≤ (q : Int) := by omega
  clear hl hr h1 h2 h3 h4 hd1 hd2 hd3 hq hln
  go_enter Try.func13, Try.ntmps13
  go_wp2_with fail
  refine (HOV.out w).mono ?_
  rintro e w1 ⟨z, rfl, rfl, b1⟩
  have X1 := Lib.hid (show Ext w w1 from b1)
  have k2 := ext_cell b1 k2
  clear b1
  go_wp2_with fail
  refine (HEL.out w1 X1.out).mono ?_
  rintro e w2 ⟨z, rfl, rfl, b2⟩
  have X2 := Lib.hid (bt X1.out b2)
  have k1 := (HB.out.1.below X2.out).cells
  have k2 := (HB.out.2.1.below X2.out).cells
  have k3 := (HB.out.2.2.1.below X2.out).cells
  simp only [cellsAre, Nat.zero_add, Nat.reduceAdd, and_true] at k1 k2 k3
  clear b2
  go_wp2_with fail
  refine (rmust_any w2).mono ?_
  rintro e w3 ⟨z, rfl, rfl, b3⟩
  have X3 := Lib.hid (bt X2.out b3)
  have k3 := (HB.out.2.2.1.below X3.out).cells
  simp only [cellsAre, Nat.zero_add, Nat.reduceAdd, and_true] at k3
  clear b3
  go_wp2_with fail
  go_loopw [27] (fun kv wr => ∃ (k : Nat) (A' : Option Addr) (c' : Nat), k ≤ n ∧ kv = .int .i64 (k : Int) ∧ Blk wr bw TLI #[.slice A' k c'] ∧ OwC w.heap.size wr (.slice A' k c') (wdL q l k) ∧ Chg (XC [bw] w.heap.size) w wr) (fun kv _ => n - (intOf kv).toNat)
  case atStart => exact ⟨0, none, 0, by omega, rfl, HB.out.2.2.2.below X3.out, World.ownsRow_nil _ _ _ _, Chg.ext X3.out⟩
  case round =>
    obtain ⟨k, A', c', hk, rfl, hbw, ho, hc⟩ := hrel
    obtain ⟨W, rfl⟩ : ∃ W, W = wr := ⟨_, rfl⟩
    have HBW := Lib.hid hbw
    have HO := Lib.hid ho
    have HC := Lib.hid hc
    have HSZ := Lib.hid (show w.heap.size ≤ W.heap.size from hc.size)
    by_cases hkn : k < n
    · have pk : (k : Int) < (n : Int) := by omega
      have wk : IntKind.i64.wrap ((k : Int) + 1) = ((k + 1 : Nat) : Int) := by rw [IntWalk.i64_in _ (by omega)]; rfl
      have HMS := Lib.hid (XC.one hc HL.out HB.out.2.2.2 (Nat.le_refl _))
      have HB2 := Lib.hid (XC.blk hc HB.out.2.1 HD.out.2.1 HBL.out.2.1)
      have HVAL := Lib.hid (fun (v : World) (hh : Ext W v) => HVA.out v k hkn (HMS.out.below hh))
      obtain ⟨y, hy⟩ : ∃ y, hv (q : Int) l (k : Int) = y := ⟨_, rfl⟩
      rw [hy] at HVAL
      have HY := Lib.hid hy
      have kk := fun w' (hh : Ext W w') => And.intro (blk_one (HBW.out.below hh)) (blk_one (HB2.out.below hh))
      have kka := fun w' (hh : Ext W w') => (kk w' hh).1
      have kkb := fun w' (hh : Ext W w') => (kk w' hh).2
      clear hbw ho hc hy kk k3 k1 k2
      go_upto_region 6 with fail
      have hst : Ext W W.drew := Ext.drew _
      refine wp_region_adv 6 [] [(0, true, some 30, none), (1, true, some 31, none), (2, true, some 32, none), (3, true, some 33, none), (4, false, some 34, none), (5, false, some 35, none)] (by kernel_rfl) (by kernel_rfl) (by kernel_rfl) (by intro it hit; (repeat (rcases List.mem_cons.1 hit with rfl | hit; (focus (intro o ho ev w; injection ho with ho; subst ho; kernel_rfl)))); cases hit) (fun _ _ _ _ _ => ⟨fun h => h, fun h => h⟩) hst ?_
      repeat (first | (refine wpSeq_pure (v := ?_) rfl ?_ ?_; rotate_left 1; (focus (intro wq_ hSq_; (try dsimp only at hSq_); go_simp; (try with_reducible rfl); done)); (try simp only [Act.put, List.setIfInBounds_toArray, List.set_cons_zero, List.set_cons_succ])) | (refine wpSeq_pureG (v := ?_) rfl rfl ?_ ?_; rotate_left 1; (focus (intro wq_ hSq_; (try dsimp only at hSq_); go_simp; (try with_reducible rfl); done)); (try simp only [Act.put, List.setIfInBounds_toArray, List.set_cons_zero, List.set_cons_succ])) | (refine wpSeq_off rfl rfl ?_; (try simp only [Act.put, List.setIfInBounds_toArray, List.set_cons_zero, List.set_cons_succ])) | (refine wpSeq_offU rfl ?_; (try simp only [Act.put, List.setIfInBounds_toArray, List.set_cons_zero, List.set_cons_succ])))
      first | refine wpSeq_call rfl (fun v1 g1 s1 K hK => ?_) | refine wpSeq_callG rfl rfl (fun v1 g1 s1 K hK => ?_)
      go_simp
      refine (HVAL.out v1 s1).mono ?_
      rintro e y1 ⟨z1, rfl, rfl, bb1⟩
      (try go_wp2_with fail)
      refine hK.out _ _ bb1 ?_
      clear hK K
      (try simp only [Act.put, List.setIfInBounds_toArray, List.set_cons_zero, List.set_cons_succ])
      repeat (first | (refine wpSeq_pure (v := ?_) rfl ?_ ?_; rotate_left 1; (focus (intro wq_ hSq_; (try dsimp only at hSq_); go_simp; (try with_reducible rfl); done)); (try simp only [Act.put, List.setIfInBounds_toArray, List.set_cons_zero, List.set_cons_succ])) | (refine wpSeq_pureG (v := ?_) rfl rfl ?_ ?_; rotate_left 1; (focus (intro wq_ hSq_; (try dsimp only at hSq_); go_simp; (try with_reducible rfl); done)); (try simp only [Act.put, List.setIfInBounds_toArray, List.set_cons_zero, List.set_cons_succ])) | (refine wpSeq_off rfl rfl ?_; (try simp only [Act.put, List.setIfInBounds_toArray, List.set_cons_zero, List.set_cons_succ])) | (refine wpSeq_offU rfl ?_; (try simp only [Act.put, List.setIfInBounds_toArray, List.set_cons_zero, List.set_cons_succ])))
      first | refine wpSeq_call rfl (fun v2 g2 s2 K hK => ?_) | refine wpSeq_callG rfl rfl (fun v2 g2 s2 K hK => ?_)
      go_simp
      (try go_wp2_with fail)
      refine hK.out _ _ (Ext.allocR _ _) ?_
      clear hK K
      (try simp only [Act.put, List.setIfInBounds_toArray, List.set_cons_zero, List.set_cons_succ])
      repeat (first | (refine wpSeq_pure (v := ?_) rfl ?_ ?_; rotate_left 1; (focus (intro wq_ hSq_; (try dsimp only at hSq_); go_simp; (try with_reducible rfl); done)); (try simp only [Act.put, List.setIfInBounds_toArray, List.set_cons_zero, List.set_cons_succ])) | (refine wpSeq_pureG (v := ?_) rfl rfl ?_ ?_; rotate_left 1; (focus (intro wq_ hSq_; (try dsimp only at hSq_); go_simp; (try with_reducible rfl); done)); (try simp only [Act.put, List.setIfInBounds_toArray, List.set_cons_zero, List.set_cons_succ])) | (refine wpSeq_off rfl rfl ?_; (try simp only [Act.put, List.setIfInBounds_toArray, List.set_cons_zero, List.set_cons_succ])) | (refine wpSeq_offU rfl ?_; (try simp only [Act.put, List.setIfInBounds_toArray, List.set_cons_zero, List.set_cons_succ])))
      intro wz gz sz
      (try simp only [endJ, List.drop_succ_cons, List.drop_zero])
      have HRX := Lib.hid ((rv_one v2 y).below gz)
      have HOX := Lib.hid (HO.out.below sz)
      have HBX := Lib.hid (HBW.out.below sz)
      have HCX := Lib.hid (HC.out.trans (Chg.ext sz))
      have hszz := HCX.out.size
      obtain ⟨bq_, hbq⟩ : ∃ bq_, v2.heap.size = bq_ := ⟨_, rfl⟩
      rw [hbq] at HRX ⊢
      clear hst s1 g1 bb1 s2 g2 gz sz hbq kka kkb
      go_wp2_with (at_builtin; refine wpl_appC rfl _ _ rfl w.heap.size (.slice A' k c') (wdL q l k) rfl HOX.out (some ⟨bq_, 0, none⟩) 1 1 [y] rfl HRX.out (by rw [wdL_len]; omega) (by omega) hszz ?_; intro A4 n4 c4 w4 o4 b4 g4; have HO4 := Lib.hid (And.intro o4 (And.intro (HCX.out.trans (Chg.grow (X := XC [bw] w.heap.size) g4 (fun b o hb _ => Or.inr (own_geE HOX.out b hb)))) (grow_blk g4 HOX.out (show TIN ≠ TLI by decide) HBX.out))); have k4 := blk_one HO4.out.2.2; have f4 := Blk.free HO4.out.2.2; clear o4 b4 g4)
      have hn4 := HO4.out.1.len
      rw [List.length_append, wdL_len] at hn4
      simp only [List.length_singleton] at hn4
      subst hn4
      go_roundw
      case rel => exact ⟨k + 1, A4, c4, by omega, by go_num, Blk.set_ HO4.out.2.2 0 _, own_far (by rw [wdL_succ, HY.out]; exact HO4.out.1) HO4.out.2.2 (show TIN ≠ TLI by decide) _, HO4.out.2.1.trans (Chg.set_ (p := ⟨bw, 0, none⟩) HO4.out.2.2 (Or.inl (List.mem_singleton.2 rfl)) _)⟩
      case measure => simp [intOf]; omega
    · obtain rfl : k = n := by omega
      go_wp2_with fail
      go_returns
      exact ⟨rfl, HC.out, _, _, HBW.out, HO.out⟩
theorem enter13 (args : Array Value) (W : World) : (callFunc 13 args).run Try.prog W = .ok (.enter 13 args) W := rfl
set_option maxHeartbeats 3200000 in
set_option maxRecDepth 100000 in
theorem rEngrave_any {q n m c : Nat} {A : Option Addr} {l : List Int} (hq : Q4 q) (w : World) (hl : OwC 0 w (.slice A m c) l) (h1m : 1 ≤ m) (hmn : m ≤ n) (hnq : n ≤ q) (hr : ∀ a ∈ l, 0 ≤ a ∧ a < (q : Int)) :
    Calls Try.prog 6 #[.int .i64 (q : Int), .int .i64 (n : Int), .slice A m c] w (Ret (fun z w' => ∃ A' c', z = .tuple #[.slice A' n c', .int .i64 0] ∧ OwC w.heap.size w' (.slice A' n c') (wdL q l n)) w) := by
  have hmf : ∀ (fn : Fn) (first cap : Array Value) (w : World), (Instr.makeFunc fn first cap).run Try.prog w = .ok (.func fn first cap) w := fun _ _ _ _ => rfl
  obtain ⟨B, hB⟩ : ∃ B, w.heap.size = B := ⟨_, rfl⟩
  obtain ⟨W, hW⟩ : ∃ W, W = (((w.alloc (.cells #[.int .i64 (q : Int)] TIN)).alloc (.cells #[.int .i64 (n : Int)] TIN)).alloc (.cells #[.slice A m c] TLI)).alloc (.cells #[.slice none 0 0] TLI) := ⟨_, rfl⟩
  have b1 : Blk W B TIN #[.int .i64 (q : Int)] := by rw [hW]; exact (((Blk.new_ _ _ hB).alloc _).alloc _).alloc _
  have b2 : Blk W (B + 1) TIN #[.int .i64 (n : Int)] := by rw [hW]; exact ((Blk.new_ _ _ (by simp [hB])).alloc _).alloc _
  have b3 : Blk W (B + 1 + 1) TLI #[.slice A m c] := by rw [hW]; exact (Blk.new_ _ _ (by simp [hB])).alloc _
  have b4 : Blk W (B + 1 + 1 + 1) TLI #[.slice none 0 0] := by rw [hW]; exact Blk.new_ _ _ (by simp [hB])
  have xW : Ext w W := by rw [hW]; exact bt (Ext.allocR _ _) (bt (Ext.allocR _ _) (bt (Ext.allocR _ _) (Ext.allocR _ _)))
  have HW := Lib.hid (And.intro b1 (And.intro b2 (And.intro b3 (And.intro b4 xW))))
  have HL := Lib.hid (And.intro hl hr)
  clear b1 b2 b3 b4 xW hl hr
  go_enter Try.func6, Try.ntmps6
  go_wp2_with fail
  rw [← hW]
  have hWs : W.heap.size = B + 1 + 1 + 1 + 1 := by rw [hW]; simp [hB]
  have hlW : OwC 0 (W.alloc (.cells #[.int .i64 0] TER)) (.slice A m c) l := HL.out.1.below (bt HW.out.2.2.2.2 (Ext.allocR _ _))
  refine (rguarded_any 13 _ enter13 (Phi := fun w' => Chg (XC [B + 1 + 1 + 1] (W.alloc (.cells #[.int .i64 0] TER)).heap.size) (W.alloc (.cells #[.int .i64 0] TER)) w' ∧ ∃ A' c', Blk w' (B + 1 + 1 + 1) TLI #[.slice A' n c'] ∧ OwC (W.alloc (.cells #[.int .i64 0] TER)).heap.size w' (.slice A' n c') (wdL q l n)) ((rengraveC_any hq _ hlW h1m hmn hnq HL.out.2 (HW.out.1.alloc _) (HW.out.2.2.1.alloc _) (HW.out.2.1.alloc _) (HW.out.2.2.2.1.alloc _) (by simp; try omega) (by simp; try omega) (by simp; try omega)).mono ?_)).mono ?_
  · rintro e w1 ⟨rfl, hc, hy⟩
    exact ⟨rfl, ⟨hc, hy⟩, XC.blk hc (Blk.new_ _ _ rfl) (by rw [hWs]; simp) (by simp)⟩
  rintro e w' ⟨rfl, w1, ⟨hc, A', c', hy, ho⟩, hbe, rfl⟩
  have X9 : Below B W (w1.setCell ⟨W.heap.size, 0, none⟩ (.int .i64 0)) := ((Chg.ext (Ext.allocR W _)).trans ((hc.mono fun b o h => show B ≤ b from by
    rcases h with h | h
    · rw [List.mem_singleton.1 h]; omega
    · rw [World.alloc] at h; simp at h; omega).trans (Chg.set_ (p := ⟨W.heap.size, 0, none⟩) hbe (show B ≤ W.heap.size from by omega) _))).below (fun b o h => h) (by omega)
  have hy2 := hy.far (p := ⟨W.heap.size, 0, none⟩) (by rw [hWs]; simp) (.int .i64 0)
  have ho2 : OwC B _ _ _ := (OwC.lower (show OwC _ _ _ _ from own_far ho (p := ⟨W.heap.size, 0, none⟩) hbe (show TIN ≠ TER by decide) (.int .i64 0)) (by simp; omega) : OwC B (w1.setCell ⟨W.heap.size, 0, none⟩ (.int .i64 0)) (.slice A' n c') (wdL q l n))
  obtain ⟨W9, hW9⟩ : ∃ W9, w1.setCell ⟨W.heap.size, 0, none⟩ (.int .i64 0) = W9 := ⟨_, rfl⟩
  rw [hW9] at X9 hy2 ho2 ⊢
  have XX := Lib.hid (show Ext w W9 from by
    have h1 := HW.out.2.2.2.2
    unfold Ext at h1 ⊢
    rw [hB] at h1 ⊢
    exact h1.trans X9)
  have k1 := blk_one hy2
  have f1 := hy2.free
  have HY := Lib.hid (And.intro hy2 ho2)
  clear hy hc hbe hy2 hlW X9 hW9 hW ho ho2
  go_wp2_with fail
  have k9 := blk_one (show Blk (W9.setCell ⟨B + 1 + 1 + 1, 0, none⟩ (.slice A' n c')) (B + 1 + 1 + 1) TLI #[.slice A' n c'] from HY.out.1.set_ 0 _)
  refine bodyPost_ret (v := .tuple #[.slice A' n c', .int .i64 0]) (by simp [results, Try.results6, go_sem, k9]) rfl ?_
  refine ⟨_, rfl, ⟨A', c', rfl, own_far (by rw [hB]; exact HY.out.2) (p := ⟨B + 1 + 1 + 1, 0, none⟩) HY.out.1 (show TIN ≠ TLI by decide) _⟩, ?_⟩
  have h1 := XX.out
  unfold Ext at h1
  rw [hB] at h1 ⊢
  exact h1.trans ((Chg.set_ (X := fun b _ => B ≤ b) (p := ⟨B + 1 + 1 + 1, 0, none⟩) HY.out.1 (show B ≤ B + 1 + 1 + 1 by omega) _).below (fun b o h => h) (by have := h1.size; omega))
end Go.Proofs.Tb
