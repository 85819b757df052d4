/- Contract of alone: the cost of the best plan for some of the faults alone. -/
import Derived.Test.YtcjddfhhofoidaaDoorPtb
import Derived.Test.YtcjddfhhofoidaaDoorTmb
import Derived.Test.YtcjddfhhofoidaaDoorRc
set_option linter.unusedVariables false
set_option linter.unusedSimpArgs false
namespace Go.Proofs.Tb
open Go.RowKit
attribute [local go_sem] cell_set_same

/-- The places, among the first k, of the faults that a test shows. -/
def subK (t l : List Int) (k : Nat) : List Int := ((List.range k).filter fun i => shB t (l.getD i 0)).map fun (i : Nat) => (i : Int)
theorem subK_succ (t l : List Int) (k : Nat) : subK t l (k + 1) = subK t l k ++ if shB t (l.getD k 0) then [(k : Int)] else [] := by
  unfold subK
  rw [List.range_succ, List.filter_append, List.map_append]
  congr 1
  simp only [List.filter_cons, List.filter_nil]
  split <;> rfl
theorem subK_len (t l : List Int) (k : Nat) : (subK t l k).length ≤ k := by
  unfold subK
  rw [List.length_map]
  exact Nat.le_trans (List.length_filter_le _ _) (by simp)
theorem ic_app (a b : List Int) : ic (a ++ b) = ic a ++ ic b := by unfold ic; rw [List.map_append]
set_option maxHeartbeats 6400000 in
set_option maxRecDepth 100000 in
theorem alone_any (A A' : Option Addr) (n c m d : Nat) (ws : List Int) (ts : List Tt) (hv : Cv ws ts) (A2 : Option Addr) (n2 c2 s : Nat) (hs : s < 2 ^ ws.length) (h0 : s ≠ 0) (w : World) (h : Il w A n c ws) (h' : Ts w A' m d ts) (h2 : Il w A2 n2 c2 (mems ws.length s)) (ht : Tab w) :
    Calls Tryd.prog 30 #[.agg #[.slice A n c, .slice A' m d], .slice A2 n2 c2] w (Ret (fun v _ => v = .tuple #[.int .i64 (pC ws ts s), .bool true]) w) := by
  have HCS := Lib.hid (sub_cv hv hs h0)
  have HPC := Lib.hid (sub_bst hv hs)
  have hn := h.le
  have hc := h.cap
  have hm := h'.le
  have hd := h'.cap
  have hn2 := h2.le
  have hc2 := h2.cap
  have HRG := Lib.hid (fun i (hi : i < (mems ws.length s).length) => mems_rng (n := ws.length) (m := n) s i h.len hi)
  obtain ⟨l, hl⟩ : ∃ l, mems ws.length s = l := ⟨_, rfl⟩
  rw [hl] at HCS HPC HRG h2
  have HL := Lib.hid h.len
  have HL' := Lib.hid h'.len
  have HL2 := Lib.hid h2.len
  have hn10 : n2 ≤ 10 := by have := HCS.out.len10; rw [subW_len, h2.len] at this; exact this
  have hm16 : m ≤ 16 := by have := hv.1.2.2; rw [h'.len] at this; exact this
  have HV := Lib.hid hv
  have H := Lib.hid h
  have H' := Lib.hid h'
  have H2 := Lib.hid h2
  have HT := Lib.hid ht
  clear h h' h2 ht hv hl
  go_enter Tryd.func30, Tryd.ntmps30
  go_upto_region 2 with fail
  refine wp_world (fun W0 => Blk W0 w.heap.size TCA #[.slice A n c, .slice A' m d] ∧ Blk W0 (w.heap.size + 1) TCA #[.slice none 0 0, .slice none 0 0] ∧ Below w.heap.size w W0) (by exact ⟨(Blk.new_ _ _ rfl).alloc _, Blk.new_ _ _ (by simp), by go_grown⟩) ?_
  rintro W0 ⟨bX, bY, hbw⟩
  obtain ⟨g, hg⟩ : ∃ g, w.heap.size = g := ⟨_, rfl⟩
  rw [hg] at bX bY hbw ⊢
  have HG := Lib.hid hg
  have HB := Lib.hid (show Blk W0 g TCA #[.slice A n c, .slice A' m d] ∧ Blk W0 (g + 1) TCA #[.slice none 0 0, .slice none 0 0] ∧ OwT TFA g W0 (.slice none 0 0) ((subW ws l).take 0) ∧ Below g w W0 from ⟨bX, bY, ⟨rfl, Or.inl ⟨rfl, rfl⟩⟩, hbw⟩)
  clear bX bY hbw hg
  go_wp2_with fail
  go_loopw [7] (fun i wr => ∃ (k : Nat) (A1 : Option Addr) (n1 c1 : Nat), k ≤ n2 ∧ i = .int .i64 (k : Int) ∧ Blk wr g TCA #[.slice A n c, .slice A' m d] ∧ Blk wr (g + 1) TCA #[.slice A1 n1 c1, .slice none 0 0] ∧
    OwT TFA g wr (.slice A1 n1 c1) ((subW ws l).take k) ∧ Below g w wr) (fun i _ => n2 - (intOf i).toNat)
  case atStart => exact ⟨0, _, _, _, by omega, rfl, HB.out⟩
  case round =>
    clear HB
    obtain ⟨k, A1, n1, c1, hk, rfl, bX, bY, hot, hbw⟩ := hrel
    have HBB := Lib.hid (And.intro bX (And.intro bY (And.intro hot hbw)))
    by_cases hkn : k < n2
    · have pk : (k : Int) < (n2 : Int) := by omega
      obtain ⟨b2, o2, rfl, hc2'⟩ := (H2.out.below (by rw [HG.out]; exact hbw)).at_ (by omega)
      have ck2 := hc2' k hkn
      obtain ⟨y, hy⟩ : ∃ y, l.getD k 0 = y := ⟨_, rfl⟩
      rw [hy] at ck2
      have hyr := HRG.out k (by rw [HL2.out]; exact hkn)
      rw [hy] at hyr
      obtain ⟨j, rfl⟩ := Int.eq_ofNat_of_zero_le hyr.1
      have hjn : j < n := by omega
      obtain ⟨b1, o1, rfl, hc1'⟩ := (H.out.below (by rw [HG.out]; exact hbw)).at_ (by omega)
      have ck1 := hc1' j hjn
      obtain ⟨x, hx⟩ : ∃ x, ws.getD j 0 = x := ⟨_, rfl⟩
      rw [hx] at ck1
      have htk : (subW ws l).take (k + 1) = (subW ws l).take k ++ [x] := by
        have hlen : k < (subW ws l).length := by rw [subW_len, HL2.out]; exact hkn
        rw [List.take_succ_eq_append_getElem hlen]
        have e := subW_get ws l k (by rw [HL2.out]; exact hkn)
        rw [hy, Int.toNat_natCast, hx] at e
        simp [List.getD, hlen] at e
        rw [e]
      have k1 := fun w' (hh : Ext wr w') => (show w'.cell? ⟨b1, o1 + j, none⟩ = some (.int .i64 x) from Ext.cell hh ck1)
      have k2 := fun w' (hh : Ext wr w') => (show w'.cell? ⟨b2, o2 + k, none⟩ = some (.int .i64 (j : Int)) from Ext.cell hh ck2)
      have kX := fun w' (hh : Ext wr w') => (bX.below hh).cells
      have kY := fun w' (hh : Ext wr w') => (bY.below hh).cells
      simp only [cellsAre, Nat.zero_add, Nat.reduceAdd, and_true] at kX kY
      have hst : Ext wr wr.drew := Ext.drew _
      have pj : (j : Int) < (n : Int) := by omega
      have HTK := Lib.hid htk
      clear bX bY hot hbw hc1' hc2' hy hx htk ck1 ck2
      go_wp2_with fail
      refine wp_region_adv 11 [] [(0, true, some 23, none), (1, true, some 24, none), (2, true, some 25, none), (3, true, some 26, none), (4, true, some 27, none), (5, true, some 28, none), (6, true, some 29, none), (7, true, some 30, none), (8, true, some 31, none), (9, true, some 32, none), (10, false, some 33, none)] (by kernel_rfl) (by kernel_rfl) (by kernel_rfl) (by intro it hit; (repeat (rcases List.mem_cons.1 hit with rfl | hit; (focus (intro o ho ev w; injection ho with ho; subst ho; kernel_rfl)))); cases hit) (fun _ _ _ _ _ => ⟨fun h => h, fun h => h⟩) hst ?_
      repeat (first | (refine wpSeq_pure (v := ?_) rfl ?_ ?_; rotate_left 1; (focus (intro wq_ hSq_; (try dsimp only at hSq_); go_simp; (try with_reducible rfl); done)); (try simp only [Act.put, List.setIfInBounds_toArray, List.set_cons_zero, List.set_cons_succ])) | (refine wpSeq_pureG (v := ?_) rfl rfl ?_ ?_; rotate_left 1; (focus (intro wq_ hSq_; (try dsimp only at hSq_); go_simp; (try with_reducible rfl); done)); (try simp only [Act.put, List.setIfInBounds_toArray, List.set_cons_zero, List.set_cons_succ])) | (refine wpSeq_off rfl rfl ?_; (try simp only [Act.put, List.setIfInBounds_toArray, List.set_cons_zero, List.set_cons_succ])))
      first | refine wpSeq_call rfl (fun u1 g1 s1 K hK => ?_) | refine wpSeq_callG rfl rfl (fun u1 g1 s1 K hK => ?_)
      go_simp
      (try go_wp2_with fail)
      refine hK.out _ _ (Ext.allocR _ _) ?_
      clear hK K
      (try simp only [Act.put, List.setIfInBounds_toArray, List.set_cons_zero, List.set_cons_succ])
      repeat (first | (refine wpSeq_pure (v := ?_) rfl ?_ ?_; rotate_left 1; (focus (intro wq_ hSq_; (try dsimp only at hSq_); go_simp; (try with_reducible rfl); done)); (try simp only [Act.put, List.setIfInBounds_toArray, List.set_cons_zero, List.set_cons_succ])) | (refine wpSeq_pureG (v := ?_) rfl rfl ?_ ?_; rotate_left 1; (focus (intro wq_ hSq_; (try dsimp only at hSq_); go_simp; (try with_reducible rfl); done)); (try simp only [Act.put, List.setIfInBounds_toArray, List.set_cons_zero, List.set_cons_succ])) | (refine wpSeq_off rfl rfl ?_; (try simp only [Act.put, List.setIfInBounds_toArray, List.set_cons_zero, List.set_cons_succ])))
      intro wz gz sz_
      (try simp only [endJ, List.drop_succ_cons, List.drop_zero])
      obtain ⟨bX, bY, hot, hbw⟩ := HBB.out
      have HBN := Lib.hid (show Blk wz u1.heap.size TFA #[.int .i64 x] from (Blk.new_ TFA #[.int .i64 x] rfl).below gz)
      have hgw : g ≤ wz.heap.size := by have h1 := HG.out; have h2 := hbw.size; have h3 := Ext.size sz_; omega
      have HZ := Lib.hid (And.intro (bX.below sz_) (And.intro (bY.below sz_) (And.intro (hot.below sz_) (hbw.trans (Below.mono sz_ (by have h1 := HG.out; have h2 := hbw.size; omega))))))
      have tg := own_tag (T' := TCA) (hot.below sz_) (by decide)
      have HTG := Lib.hid tg
      have HLN := Lib.hid (show ((subW ws l).take k).length ≤ 1000 by rw [List.length_take]; omega)
      clear hst k1 k2 kX kY g1 s1 gz sz_ bX bY hot hbw tg HBB
      go_wp2_with (at_builtin; refine wp_appE TFS TFA _ 1 8 fa_info Tryd.underlying22 rfl (by omega) (by omega) rfl _ _ rfl g (.slice A1 n1 c1) _ _ rfl HZ.out.2.2.1 ⟨u1.heap.size, 0, none⟩ 1 1 [.int .i64 x] rfl rfl (blk_cells HBN.out) (int_one _) (by have := HLN.out; omega) (by omega) hgw ?_; intro v6 w6 hown6 hb6 hg6; have hn6 : OwT TFA g w6 v6 ((subW ws l).take (k + 1)) := (by rw [HTK.out]; exact OwT.mk (n := ((subW ws l).take k).length + 1) (by rw [List.length_append]; rfl) (by rw [ic_app]; exact hown6)); obtain ⟨A7, n7, c7, hv7, _⟩ := hn6.il; subst hv7; have bX6 := HZ.out.1.grown hg6 HTG.out; have bY6 := HZ.out.2.1.grown hg6 HTG.out; have cY6 := bY6.cells; have fY6 := Blk.free bY6 0; have HE := Lib.hid (And.intro bX6 (And.intro bY6 (And.intro hn6 (HZ.out.2.2.2.trans hb6)))); simp only [cellsAre, Nat.zero_add, Nat.reduceAdd, and_true] at cY6; clear bX6 bY6 hn6 hown6 hb6 hg6)
      go_roundw
      case rel =>
        obtain ⟨e1, e2, e3, e4⟩ := HE.out
        exact ⟨k + 1, _, _, _, by omega, by go_num, e1.far (by simp) _, e2.set_ 0 _, e3.far e2 (by decide) 0 _, e4.setCell (by simp) _⟩
      case measure => simp [intOf]; omega
    · have hkn2 : k = n2 := by omega
      subst hkn2
      obtain ⟨bX, bY, hot, hbw⟩ := HBB.out
      rw [List.take_of_length_le (by rw [subW_len, HL2.out]; exact Nat.le_refl _)] at hot
      have HB := Lib.hid (show Blk wr g TCA #[.slice A n c, .slice A' m d] ∧ Blk wr (g + 1) TCA #[.slice A1 n1 c1, .slice none 0 0] ∧ OwT TFA g wr (.slice A1 n1 c1) (subW ws l) ∧ OwP TTE g wr (.slice none 0 0) ((subT ts l).take 0) ∧ Below g w wr from ⟨bX, bY, hot, OwP.nil _ _ _, hbw⟩)
      clear bX bY hot hbw HBB
      go_upto_region 6 with fail
      go_wp2_with fail
      go_loopw [8] (fun i wr => ∃ (j : Nat) (A3 : Option Addr) (n3 c3 : Nat), j ≤ m ∧ i = .int .i64 (j : Int) ∧ Blk wr g TCA #[.slice A n c, .slice A' m d] ∧ Blk wr (g + 1) TCA #[.slice A1 n1 c1, .slice A3 n3 c3] ∧
        OwT TFA g wr (.slice A1 n1 c1) (subW ws l) ∧ OwP TTE g wr (.slice A3 n3 c3) ((subT ts l).take j) ∧ Below g w wr) (fun i _ => m - (intOf i).toNat)
      case atStart => exact ⟨0, _, _, _, by omega, rfl, HB.out⟩
      case round =>
        clear HB
        obtain ⟨j, A3, n3, c3, hj, rfl, bX, bY, hot, hop, hbw⟩ := hrel
        obtain ⟨wo, rfl⟩ : ∃ wo, wo = wr := ⟨_, rfl⟩
        have HBB := Lib.hid (And.intro bX (And.intro bY (And.intro hot (And.intro hop hbw))))
        have cX := bX.cells
        simp only [cellsAre, Nat.zero_add, Nat.reduceAdd, and_true] at cX
        by_cases hjm : j < m
        · have pj : (j : Int) < (m : Int) := by omega
          obtain ⟨bT, oT, rfl, hcell⟩ := (H'.out.below (by rw [HG.out]; exact hbw)).at_ (by omega)
          obtain ⟨ck1, A5, n5, c5, ck2, il5⟩ := hcell j hjm
          obtain ⟨x, hx⟩ : ∃ x, tC ts j = x := ⟨_, rfl⟩
          obtain ⟨sh, hsh⟩ : ∃ x, tS ts j = x := ⟨_, rfl⟩
          rw [hx] at ck1
          rw [hsh] at il5
          have htk : (subT ts l).take (j + 1) = (subT ts l).take j ++ [(x, subK sh l k)] := by
            have hlen : j < (subT ts l).length := by rw [subT_len, HL'.out]; exact hjm
            rw [List.take_succ_eq_append_getElem hlen]
            congr 2
            have hjt : j < ts.length := by rw [HL'.out]; exact hjm
            have e1 : tC ts j = ts[j].1 := by simp [tC, List.getD, hjt]
            have e2 : tS ts j = ts[j].2 := by simp [tS, List.getD, hjt]
            rw [← hx, ← hsh, e1, e2, ← HL2.out]
            simp [subT, subS, subK]
          have HTK := Lib.hid htk
          have IL5 := Lib.hid il5
          have CK := Lib.hid (And.intro ck1 ck2)
          clear bX bY hot hop hcell hx hsh htk il5
          go_upto_region 10 with fail
          have b9 : Blk (wo.alloc (.cells #[.int .i64 x, .slice none 0 0] TTE)) wo.heap.size TTE #[.int .i64 x, .slice none 0 0] := Blk.new_ _ _ rfl
          have x9 : Below wo.heap.size wo (wo.alloc (.cells #[.int .i64 x, .slice none 0 0] TTE)) := Ext.allocR _ _
          refine wp_world (fun W1 => Blk W1 wo.heap.size TTE #[.int .i64 x, .slice none 0 0] ∧ Below wo.heap.size wo W1) ⟨b9, x9⟩ ?_
          clear b9 x9 ck1 ck2 cX
          rintro W1 ⟨b9, x9⟩
          obtain ⟨p9, hp9⟩ : ∃ p, wo.heap.size = p := ⟨_, rfl⟩
          rw [hp9] at b9 x9 ⊢
          have HP9 := Lib.hid hp9
          have H9 := Lib.hid (show Blk W1 p9 TTE #[.int .i64 x, .slice none 0 0] ∧ OwI p9 W1 (.slice none 0 0) (subK sh l 0) ∧ Below p9 wo W1 from ⟨b9, OwI.nil _ _, x9⟩)
          clear b9 x9 hp9
          go_wp2_with fail
          go_loopw [10] (fun i wi => ∃ (q : Nat) (A6 : Option Addr) (n6 c6 : Nat), q ≤ k ∧ i = .int .i64 (q : Int) ∧ Blk wi p9 TTE #[.int .i64 x, .slice A6 n6 c6] ∧ OwI p9 wi (.slice A6 n6 c6) (subK sh l q) ∧ Below p9 wo wi) (fun i _ => k - (intOf i).toNat)
          case atStart => exact ⟨0, _, _, _, by omega, rfl, H9.out⟩
          case round =>
            clear H9
            obtain ⟨q, A6, n6, c6, hq, rfl, b9, ho9, hx9⟩ := hrel
            have HEX := Lib.hid (show Ext wo wr by unfold Ext; rw [HP9.out]; exact hx9)
            have H9 := Lib.hid (And.intro b9 (And.intro ho9 hx9))
            by_cases hqk : q < k
            · have pq : (q : Int) < (k : Int) := by omega
              have hX := (HBB.out.1.below HEX.out)
              have kX := fun w' (hh : Ext wr w') => (hX.below hh).cells
              have kT1 := fun w' (hh : Ext wr w') => (show w'.cell? ⟨bT, oT + j * 2, none⟩ = some (.int .i64 x) from Ext.cell hh (Ext.cell HEX.out CK.out.1))
              have kT2 := fun w' (hh : Ext wr w') => (show w'.cell? ⟨bT, oT + j * 2 + 1, none⟩ = some (.slice A5 n5 c5) from Ext.cell hh (Ext.cell HEX.out CK.out.2))
              simp only [cellsAre, Nat.zero_add, Nat.reduceAdd, and_true] at kX
              obtain ⟨b2, o2, rfl, hc2'⟩ := (H2.out.below (by rw [HG.out]; exact HBB.out.2.2.2.2)).at_ (by omega)
              have hst : Ext wr wr.drew := Ext.drew _
              have pq1 : (q : Int) + 1 ≤ (c2 : Int) := by omega
              clear hX hc2'
              go_wp2_with fail
              refine wp_region_adv 15 [] [(0, true, some 57, none), (1, true, some 58, none), (2, true, some 59, none), (3, true, some 60, none), (4, true, some 61, none), (5, true, some 62, none), (6, true, some 63, none), (7, true, some 64, none), (8, true, some 65, none), (9, true, some 66, none), (10, false, some 67, none), (11, true, some 56, none), (12, true, some 68, none), (13, true, some 69, none), (14, false, some 11, none)] (by kernel_rfl) (by kernel_rfl) (by kernel_rfl) (by intro it hit; (repeat (rcases List.mem_cons.1 hit with rfl | hit; (focus (intro o ho ev w; injection ho with ho; subst ho; kernel_rfl)))); cases hit) (fun _ _ _ _ _ => ⟨fun h => h, fun h => h⟩) hst ?_
              repeat (first | (refine wpSeq_pure (v := ?_) rfl ?_ ?_; rotate_left 1; (focus (intro wq_ hSq_; (try dsimp only at hSq_); go_simp; (try with_reducible rfl); done)); (try simp only [Act.put, List.setIfInBounds_toArray, List.set_cons_zero, List.set_cons_succ])) | (refine wpSeq_pureG (v := ?_) rfl rfl ?_ ?_; rotate_left 1; (focus (intro wq_ hSq_; (try dsimp only at hSq_); go_simp; (try with_reducible rfl); done)); (try simp only [Act.put, List.setIfInBounds_toArray, List.set_cons_zero, List.set_cons_succ])) | (refine wpSeq_off rfl rfl ?_; (try simp only [Act.put, List.setIfInBounds_toArray, List.set_cons_zero, List.set_cons_succ])))
              refine wpSeq_pure (v := .slice (some ⟨b2, o2 + q, none⟩) 1 (c2 - q)) rfl ?_ ?_
              · intro wq hSq_
                (try dsimp only at hSq_)
                go_simp
                have ew : IntKind.i64.wrap ((q : Int) + 1) = ((q + 1 : Nat) : Int) := by
                  simp only [IntKind.wrap, IntKind.signed, IntKind.bits, IntKind.min, IntKind.max]
                  first | omega | (simp; omega) | (split <;> simp <;> omega)
                simp only [ew, Int.toNat_natCast]
                rw [if_pos ⟨by omega, by omega⟩, if_pos (by omega), if_neg (by omega), Nat.add_sub_cancel_left]
              (try simp only [Act.put, List.setIfInBounds_toArray, List.set_cons_zero, List.set_cons_succ])
              first | refine wpSeq_call rfl (fun u1 g1 s1 K hK => ?_) | refine wpSeq_callG rfl rfl (fun u1 g1 s1 K hK => ?_)
              go_simp
              have hilq : Il u1 (some ⟨b2, o2 + q, none⟩) 1 (c2 - q) [l.getD q 0] := by
                have hI := H2.out.below (by rw [HG.out]; exact HBB.out.2.2.2.2)
                have hI := (hI.below HEX.out).below s1
                obtain ⟨b2', o2', e2, hcc⟩ := hI.at_ (by omega)
                injection e2 with e2
                injection e2 with e2 e3
                subst e2 e3
                refine ⟨rfl, by omega, by omega, fun _ => ⟨_, _, rfl, fun i hi => ?_⟩⟩
                have hi0 : i = 0 := by omega
                subst hi0
                rw [Nat.add_zero]
                exact hcc q hqk
              refine (zparts_any A5 (some ⟨b2, o2 + q, none⟩) n5 c5 1 (c2 - q) sh [l.getD q 0] x u1 ((IL5.out.below HEX.out).below s1) hilq (by omega)).mono ?_
              rintro e y1 ⟨v1, rfl, ⟨Ay, ny, cy, An, nn, cn, hv1, hily, hiln, _, _⟩, bb1⟩
              subst hv1
              (try go_wp2_with fail)
              refine hK.out _ _ bb1 ?_
              clear hK K
              (try simp only [Act.put, List.setIfInBounds_toArray, List.set_cons_zero, List.set_cons_succ])
              repeat (first | (refine wpSeq_pure (v := ?_) rfl ?_ ?_; rotate_left 1; (focus (intro wq_ hSq_; (try dsimp only at hSq_); go_simp; (try with_reducible rfl); done)); (try simp only [Act.put, List.setIfInBounds_toArray, List.set_cons_zero, List.set_cons_succ])) | (refine wpSeq_pureG (v := ?_) rfl rfl ?_ ?_; rotate_left 1; (focus (intro wq_ hSq_; (try dsimp only at hSq_); go_simp; (try with_reducible rfl); done)); (try simp only [Act.put, List.setIfInBounds_toArray, List.set_cons_zero, List.set_cons_succ])) | (refine wpSeq_off rfl rfl ?_; (try simp only [Act.put, List.setIfInBounds_toArray, List.set_cons_zero, List.set_cons_succ])))
              first | refine wpSeq_call rfl (fun u2 g2 s2 K hK => ?_) | refine wpSeq_callG rfl rfl (fun u2 g2 s2 K hK => ?_)
              go_simp
              (try go_wp2_with fail)
              refine hK.out _ _ (Ext.refl _) ?_
              clear hK K
              (try simp only [Act.put, List.setIfInBounds_toArray, List.set_cons_zero, List.set_cons_succ])
              repeat (first | (refine wpSeq_pure (v := ?_) rfl ?_ ?_; rotate_left 1; (focus (intro wq_ hSq_; (try dsimp only at hSq_); go_simp; (try with_reducible rfl); done)); (try simp only [Act.put, List.setIfInBounds_toArray, List.set_cons_zero, List.set_cons_succ])) | (refine wpSeq_pureG (v := ?_) rfl rfl ?_ ?_; rotate_left 1; (focus (intro wq_ hSq_; (try dsimp only at hSq_); go_simp; (try with_reducible rfl); done)); (try simp only [Act.put, List.setIfInBounds_toArray, List.set_cons_zero, List.set_cons_succ])) | (refine wpSeq_off rfl rfl ?_; (try simp only [Act.put, List.setIfInBounds_toArray, List.set_cons_zero, List.set_cons_succ])))
              intro wz gz sz_
              (try simp only [endJ, List.drop_succ_cons, List.drop_zero])
              have HNY := Lib.hid hily.len
              have HZ := Lib.hid sz_
              clear kX kT1 kT2 hst g1 s1 bb1 g2 s2 gz sz_ hilq hily hiln
              go_upto_region 14 with fail
              have hb9 := H9.out.1.below HZ.out
              have c9 := hb9.cells
              simp only [cellsAre, Nat.zero_add, Nat.reduceAdd, and_true] at c9
              have hsz : p9 ≤ wz.heap.size := by have h1 := HP9.out; have h2 := Ext.size (bt HEX.out HZ.out); omega
              have hX9 : Below p9 wo wz := by have h1 := bt HEX.out HZ.out; unfold Ext at h1; rw [HP9.out] at h1; exact h1
              have HX9 := Lib.hid hX9
              have HB9 := Lib.hid hb9
              have HO9 := Lib.hid (H9.out.2.1.below HZ.out)
              have HLN := Lib.hid (subK_len sh l q)
              clear hX9 hb9 H9 HEX HZ
              by_cases hsb : shB sh (l.getD q 0) = true
              · have hny : ny = 1 := by rw [← HNY.out]; simp only [List.filter_cons, List.filter_nil, hsb, if_true]; rfl
                have HSU := Lib.hid (show subK sh l (q + 1) = subK sh l q ++ [(q : Int)] by rw [subK_succ, if_pos hsb])
                clear HNY hsb
                subst hny
                go_wp2_with (at_builtin; refine wp_appE TIS TIN _ 1 8 int_info Tryd.underlying37 rfl (by omega) (by omega) rfl _ _ rfl p9 (.slice A6 n6 c6) _ _ rfl (HO9.out.alloc _) ⟨wz.heap.size, 0, none⟩ 1 1 [.int .i64 (q : Int)] rfl rfl (cell_new wz [.int .i64 (q : Int)] TIN) (int_one _) (by have := HLN.out; omega) (by omega) (by simp; omega) ?_; intro v6 w6 hown6 hb6 hg6; have hn6 : OwI p9 w6 v6 (subK sh l (q + 1)) := (by rw [HSU.out]; exact OwI.snoc hown6); obtain ⟨A7, n7, c7, hv7, _⟩ := hn6.il3; subst hv7; have b96 := (HB9.out.below (Ext.allocR wz (.cells #[.int .i64 (q : Int)] TIN))).grown hg6 (own_tag (HO9.out.alloc _) (by decide)); have c96 := b96.cells; have f96 := Blk.free b96 1; have HE := Lib.hid (And.intro b96 (And.intro hn6 ((HX9.out.trans (Below.mono (Ext.allocR wz (.cells #[.int .i64 (q : Int)] TIN)) hsz)).trans hb6))); simp only [cellsAre, Nat.zero_add, Nat.reduceAdd, and_true] at c96; clear b96 hn6 hown6 hb6 hg6)
                go_roundw
                case rel =>
                  obtain ⟨e1, e2, e3⟩ := HE.out
                  exact ⟨q + 1, _, _, _, by omega, by go_num, e1.set_ 1 _, OwT.far e2 e1 (by decide) 1 _, e3.setCell (Nat.le_refl _) _⟩
                case measure => simp [intOf]; omega
              · have hsf : shB sh (l.getD q 0) = false := by simpa using hsb
                have hny : ny = 0 := by rw [← HNY.out]; simp only [List.filter_cons, List.filter_nil, hsf]; rfl
                have HSU := Lib.hid (show subK sh l (q + 1) = subK sh l q by rw [subK_succ, if_neg hsb, List.append_nil])
                clear HNY hsb hsf
                subst hny
                go_wp2
                go_roundw
                case rel => exact ⟨q + 1, _, _, _, by omega, by go_num, HB9.out, by rw [HSU.out]; exact HO9.out, HX9.out⟩
                case measure => simp [intOf]; omega
            · have hqk2 : q = k := by omega
              subst hqk2
              obtain ⟨hb9, ho9, _⟩ := H9.out
              have c9 := hb9.cells
              have cY := (HBB.out.2.1.below HEX.out).cells
              simp only [cellsAre, Nat.zero_add, Nat.reduceAdd, and_true] at c9 cY
              obtain ⟨d4, hr4, hp4⟩ := HBB.out.2.2.2.1.below HEX.out
              have hx5 : Ext wr (wr.alloc (.cells #[.int .i64 x, .slice A6 n6 c6] TTE)) := Ext.allocR _ _
              have hdl := hp4.len
              have hdl2 : d4.length ≤ 100 := by rw [hdl, List.length_take]; omega
              have hgo : g ≤ wo.heap.size := by have h1 := HG.out; have h2 := HBB.out.2.2.2.2.size; omega
              have hgw4 : g ≤ (wr.alloc (.cells #[.int .i64 x, .slice A6 n6 c6] TTE)).heap.size := Nat.le_trans hgo (Ext.size (bt HEX.out hx5))
              have HR := Lib.hid (And.intro (own_below hr4 hx5) (And.intro (hp4.below hx5) (ho9.sl.below hx5)))
              have HX := Lib.hid (bt HEX.out hx5)
              have HTG := Lib.hid (own_tag (T' := TCA) (own_below hr4 hx5) (by decide))
              have HTG2 := Lib.hid (own_tag (T' := TFA) (own_below hr4 hx5) (by decide))
              have HCN := Lib.hid (cell_new wr [.int .i64 x, .slice A6 n6 c6] TTE)
              clear hb9 ho9 hr4 hp4 hx5 H9
              go_wp2_with (at_builtin; refine wp_appE TTS TTE _ 2 32 te_info Tryd.underlying23 rfl (by omega) (by omega) rfl _ _ rfl g (.slice A3 n3 c3) d4.length (cel prE d4) rfl HR.out.1 ⟨wr.heap.size, 0, none⟩ 1 1 [.int .i64 x, .slice A6 n6 c6] rfl rfl HCN.out pr_one (by omega) (by omega) hgw4 ?_; intro v6 w6 hown6 hb6 hg6; have hn6 : OwP TTE g w6 v6 ((subT ts l).take (j + 1)) := (by rw [HTK.out]; exact OwP.snoc (by decide) HR.out.1 HR.out.2.1 HR.out.2.2 hown6 hg6); obtain ⟨A7, n7, c7, hv7, _⟩ := hn6.slp2; subst hv7; have bX6 := (HBB.out.1.below HX.out).grown hg6 HTG.out; have bY6 := (HBB.out.2.1.below HX.out).grown hg6 HTG.out; have oT6 := (HBB.out.2.2.1.below HX.out).grown hg6 HTG2.out; have cY6 := bY6.cells; have fY6 := Blk.free bY6 1; have HE := Lib.hid (And.intro bX6 (And.intro bY6 (And.intro oT6 (And.intro hn6 ((HBB.out.2.2.2.2.trans (Below.mono HX.out hgo)).trans hb6))))); simp only [cellsAre, Nat.zero_add, Nat.reduceAdd, and_true] at cY6; clear bX6 bY6 oT6 hn6 hown6 hb6 hg6)
              go_roundw
              case rel =>
                obtain ⟨e1, e2, e3, e4, e5⟩ := HE.out
                exact ⟨j + 1, _, _, _, by omega, by go_num, e1.far (by simp) _, e2.set_ 1 _, e3.far e2 (by decide) 1 _, e4.far e2 (by decide) (by decide) 1 _, e5.setCell (by simp) _⟩
              case measure => simp [intOf]; omega
        · have hjm2 : j = m := by omega
          subst hjm2
          rw [List.take_of_length_le (by rw [subT_len, HL'.out]; exact Nat.le_refl _)] at hop
          have cY := bY.cells
          simp only [cellsAre, Nat.zero_add, Nat.reduceAdd, and_true] at cY
          have HO1 := Lib.hid hot.il_
          have HO2 := Lib.hid hop.ts_
          have hbw' : Ext w wo := by unfold Ext; rw [HG.out]; exact hbw
          have HBW := Lib.hid hbw'
          clear bX bY hot hop hbw hbw' HBB
          go_wp2_with fail
          refine (rbest_any A1 A3 n1 c1 n3 c3 (subW ws l) (subT ts l) wo HO1.out HO2.out (HT.out.below HBW.out)).mono ?_
          rintro e w9 ⟨v9, rfl, hv9, b9⟩
          obtain ⟨A9, n9, c9, rfl, -⟩ := hv9.1 HCS.out
          have HZ := Lib.hid (bt HBW.out b9)
          clear hv9 b9 cY cX
          go_wp2
          go_returns
          exact ⟨_, rfl, by rw [HPC.out]; rfl, HZ.out⟩
end Go.Proofs.Tb
