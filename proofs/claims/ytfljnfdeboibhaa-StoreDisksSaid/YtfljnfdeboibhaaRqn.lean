/- The reference's disk: Write. -/
import Derived.Test.YtfljnfdeboibhaaRqk
set_option linter.unusedVariables false
set_option linter.unusedSimpArgs false
namespace Go.Proofs.Tb
open Go.Maps Go.RowKit Go.Lib
attribute [local go_sem] cell_set_same neqMapL

theorem own_form0 {w : World} {base k n : Nat} {T : TypeId} {v : Value} {xs : List Value} (h : w.ownsRow base T k v n xs) (hn : 0 < n) : ∃ g cap, v = .slice (some ⟨g, 0, none⟩) n cap := by
  rcases h.2 with ⟨e, h0⟩ | ⟨q, cap, cu, e, _⟩
  · omega
  · exact ⟨q, cap, e⟩
/-- While a block's row is made. -/
structure WtS (w W : World) (H b5 n c5 : Nat) (cs : Array Value) (zs : List Value) : Prop where
  sd : SD w H cs W
  br : Blk W (H + 1) TRD #[.slice none 0 0, .bool false, .bool false, .int .i64 0]
  nx : W.ownsRow w.heap.size TSL 1 (.slice (some ⟨b5, 0, none⟩) n c5) n zs
theorem WtS.ext {w W W' : World} {H b5 n c5 : Nat} {cs : Array Value} {zs : List Value} (h : WtS w W H b5 n c5 cs zs) (x : Ext W W') : WtS w W' H b5 n c5 cs zs := ⟨h.sd.ext x, h.br.below x, own_below h.nx x⟩
theorem WtS.grow {w W W' : World} {H b5 n c5 : Nat} {cs : Array Value} {zs : List Value} (h : WtS w W H b5 n c5 cs zs) {v : Value} {m : Nat} {xs : List Value} (ho : W.ownsRow w.heap.size TST 1 v m xs) (g : W.grownBy W' v.ownBlock) (b : Below w.heap.size W W') : WtS w W' H b5 n c5 cs zs :=
  ⟨⟨Below.trans h.sd.1 b, grow_blk g ho (show TST ≠ TRD by decide) h.sd.2⟩, grow_blk g ho (show TST ≠ TRD by decide) h.br, own_keep h.nx fun _ _ _ _ hb => (grow_blk g ho (show TST ≠ TSL by decide) hb).trans hb.symm⟩
theorem WtS.at_ {w W : World} {H b5 n c5 k : Nat} {cs : Array Value} {zs : List Value} (h : WtS w W H b5 n c5 cs zs) (hk : k < n) : ∃ u, W.cell? ⟨b5, k, none⟩ = some u := by
  have hr := own_rvv h.nx
  have hl : zs.length = n := by have := hr.len; omega
  obtain ⟨b, o, e, hc⟩ := hr.at_ (by omega)
  injection e with e
  injection e with e1 e2
  subst e1 e2
  have := hc k _ (List.getElem?_eq_getElem (by omega))
  rw [Nat.zero_add] at this
  exact ⟨_, this⟩
theorem WtS.fin {w W : World} {H b5 n c5 k : Nat} {cs : Array Value} {zs : List Value} (h : WtS w W H b5 n c5 cs zs) {v : Value} {l : List (List Nat)} {bs : List Nat} {bl : List (List (List Nat))} (ho : W.ownsRow w.heap.size TST 1 v (l.length + 1) (sc l ++ [.string (sb bs)])) (hr : RowsTx 0 w zs bl) (hn : n = bl.length) (hk : k < n) :
    SD w H cs (W.setCell ⟨b5, k, none⟩ v) ∧ Blk (W.setCell ⟨b5, k, none⟩ v) (H + 1) TRD #[.slice none 0 0, .bool false, .bool false, .int .i64 0] ∧ OwTd 0 (W.setCell ⟨b5, k, none⟩ v) (.slice (some ⟨b5, 0, none⟩) n c5) (bl.set k (l ++ [bs])) := by
  subst hn
  obtain ⟨s1, s2⟩ := h.nx.stored k v
  have hge : w.heap.size ≤ b5 := own_geE h.nx b5 rfl
  have hx : Ext w (W.setCell ⟨b5, k, none⟩ v) := h.sd.1.setCell (p := ⟨b5, k, none⟩) hge v
  refine ⟨⟨hx, grow_blk (v := .slice (some ⟨b5, 0, none⟩) bl.length c5) s2 h.nx (show TSL ≠ TRD by decide) h.sd.2⟩, grow_blk (v := .slice (some ⟨b5, 0, none⟩) bl.length c5) s2 h.nx (show TSL ≠ TRD by decide) h.br, zs.set k v, ?_, by rw [List.length_set, List.length_set]; exact hr.1, fun i hi => ?_⟩
  · rw [List.length_set]
    exact own_lower s1 (Nat.zero_le _)
  · rw [List.length_set] at hi
    have hz : zs.length = bl.length := hr.1
    rw [getD_setL _ _ _ (by omega), getD_setL _ _ _ hk]
    by_cases hik : i = k
    · rw [if_pos hik, if_pos hik]
      have h1 : World.ownsRow W 0 TST 1 v (l ++ [bs]).length (sc (l ++ [bs])) := by
        rw [List.length_append, sc_app]
        exact own_lower ho (Nat.zero_le _)
      exact own_keep h1 fun _ _ _ _ hb => (grow_blk (v := .slice (some ⟨b5, 0, none⟩) bl.length c5) s2 h.nx (show TSL ≠ TST by decide) hb).trans hb.symm
    · rw [if_neg hik, if_neg hik]
      exact own_below (hr.2 i hi) hx
set_option maxHeartbeats 6400000 in
set_option maxRecDepth 100000 in
theorem zwrite_ok {w : World} {v : Value} {bl : List (List (List Nat))} {left : Nat} (h : RdV w v bl false left) (hb : bl.length ≤ 1000) {k : Nat} (hk : k < bl.length) (hne : bl.getD k [] ≠ []) (hfew : (bl.getD k []).length ≤ 100000) (hl : left ≤ 9223372036854775807)
    (A2 : Option Addr) (c2 : Nat) (bs : List Nat) (hr : Rv w 1 A2 64 c2 (bc bs)) :
    Calls Try.prog 42 #[v, .int .i64 (k : Int), .slice A2 64 c2] w (Ret (fun z w' => ∃ v', z = .tuple #[v', .int .i64 (if left = 1 then 9 else 0)] ∧ RdV w' v' (bl.set k (bl.getD k [] ++ [bs])) (decide (left = 1)) (left - 1)) w) := by
  obtain ⟨A, n, c, a, lf, rfl, ho, h3⟩ := h
  have HACT := Lib.hid (fun W => zact_any A n c a lf (h3 rfl) hl W)
  obtain ⟨hn, hle, hcp⟩ := ho.len
  obtain ⟨dn, hdn⟩ : ∃ dn, decide (left = 1) = dn := ⟨_, rfl⟩
  obtain ⟨er, her⟩ : ∃ er : Int, (if left = 1 then (9 : Int) else 0) = er := ⟨_, rfl⟩
  obtain ⟨l2, hl2⟩ : ∃ l2, left - 1 = l2 := ⟨_, rfl⟩
  have HER := Lib.hid (show er = if dn = true then 9 else 0 by
    rw [← her, ← hdn]
    by_cases hl : left = 1
    · rw [if_pos hl, decide_eq_true hl]; rfl
    · rw [if_neg hl, decide_eq_false hl]; rfl)
  rw [hdn, hl2] at HACT
  rw [hdn, her, hl2]
  obtain ⟨b, o, Az, cz, rfl, kz0, rz0⟩ := ho.at_ hk
  obtain ⟨zs, hzo, hzr⟩ := ho
  obtain ⟨l, hll⟩ : ∃ l, bl.getD k [] = l := ⟨_, rfl⟩
  rw [hll] at kz0 rz0 hne hfew ⊢
  obtain ⟨m, hm⟩ : ∃ m, l.length = m := ⟨_, rfl⟩
  rw [hm] at kz0 rz0 hfew
  obtain ⟨bk, ok, rfl, hkc⟩ := hr.at_ (by omega)
  have hbl : bs.length = 64 := by
    have := hr.len
    unfold bc at this
    rw [List.length_map] at this
    omega
  have HO := Lib.hid (And.intro hzo hzr)
  have HN := Lib.hid hn
  have KZ := Lib.hid kz0
  have RZ := Lib.hid rz0
  have HM := Lib.hid hm
  have HR2 := Lib.hid hr
  have hle2 := hr.le
  have hcp2 := hr.cap
  have hm0 : 0 < m := by rw [← hm]; exact List.length_pos_iff.2 hne
  have hn2 : n ≤ 1000 := by omega
  have hkn : k < n := by omega
  have pk : (k : Int) < (n : Int) := by omega
  have pk2 : ¬ (k : Int) < 0 := by omega
  have pk3 : ¬ (n : Int) ≤ (k : Int) := by omega
  have HCV := Lib.hid (fun (W : World) (x : Ext w W) => run_convert_bytes_arg (P := Try.prog) W TBY TU8 Try.underlying44 Try.underlying5 bk ok 64 c2 (bs.map fun (x : Nat) => (x : Int)) (by rw [List.length_map]; exact hbl) (fun i hi => ext_cell x (hkc i _ (by
    unfold bc
    rw [List.getElem?_map, List.getD_eq_getElem?_getD, List.getElem?_map, List.getElem?_eq_getElem (by omega)]
    rfl))) 9 Try.underlying9)
  obtain ⟨x, hx⟩ : ∃ x, sb bs = x := ⟨_, rfl⟩
  rw [show strOfNums (bs.map fun (x : Nat) => (x : Int)) = x from hx] at HCV
  have HX := Lib.hid hx
  clear hzo hzr hn hb h3 hne hdn her hl2 hl hk hll hm hr hkc hbl hx kz0 rz0
  unfold rdk at HACT ⊢
  go_enter Try.func42, Try.ntmps42
  go_upto_region 1 with fail
  obtain ⟨H, hH⟩ : ∃ H, w.heap.size = H := ⟨_, rfl⟩
  refine wp_world (fun W => SD w H #[.slice (some ⟨b, o, none⟩) n c, .bool false, .bool a, .int .i64 lf] W ∧ Blk W (H + 1) TRD #[.slice none 0 0, .bool false, .bool false, .int .i64 0]) ⟨⟨bt (Ext.allocR _ _) (Ext.allocR _ _), (Blk.new_ _ _ hH).alloc _⟩, Blk.new_ _ _ (by simp [hH])⟩ ?_
  rw [hH]
  rintro W ⟨hsd, hbr⟩
  have kb := hsd.2.cells
  simp only [cellsAre, Nat.zero_add, Nat.reduceAdd, and_true] at kb
  have HSD := Lib.hid (And.intro hsd hbr)
  have hHw : w.heap.size ≤ H := Nat.le_of_eq hH
  have hHw2 : w.heap.size ≤ H + 1 := by omega
  clear hsd hbr hH
  go_upto_region 5 with fail
  go_wp2_with fail
  refine (HACT.out _).mono ?_
  rintro e w1 ⟨z1, rfl, ⟨a', lf', rfl, h4⟩, b1⟩
  have hsd1 := HSD.out.1.ext b1
  have hbr1 := HSD.out.2.below b1
  have kb1 := hsd1.2.cells
  have kf1 := hsd1.2.free
  simp only [cellsAre, Nat.zero_add, Nat.reduceAdd, and_true] at kb1
  have H4 := Lib.hid h4
  have B9 := (((hsd1.2.set_ 0 (.slice (some ⟨b, o, none⟩) n c)).set_ 1 (.bool dn)).set_ 2 (.bool a')).set_ 3 (.int .i64 lf')
  have R9 := (((hbr1.far (p := ⟨H, 0, none⟩) (by simp) (.slice (some ⟨b, o, none⟩) n c)).far (p := ⟨H, 1, none⟩) (by simp) (.bool dn)).far (p := ⟨H, 2, none⟩) (by simp) (.bool a')).far (p := ⟨H, 3, none⟩) (by simp) (.int .i64 lf')
  have E9 := (((hsd1.1.setCell (p := ⟨H, 0, none⟩) hHw (.slice (some ⟨b, o, none⟩) n c)).setCell (p := ⟨H, 1, none⟩) hHw (.bool dn)).setCell (p := ⟨H, 2, none⟩) hHw (.bool a')).setCell (p := ⟨H, 3, none⟩) hHw (.int .i64 lf')
  have HS1 := Lib.hid (And.intro E9 (And.intro B9 R9))
  clear hsd1 hbr1 h4 kb b1 HACT B9 R9 E9 HSD
  go_upto_region 6 with fail
  refine wp_world (fun W => SD w H #[.slice (some ⟨b, o, none⟩) n c, .bool dn, .bool a', .int .i64 lf'] W ∧ Blk W (H + 1) TRD #[.slice none 0 0, .bool false, .bool false, .int .i64 0]) ⟨⟨HS1.out.1, HS1.out.2.1⟩, HS1.out.2.2⟩ ?_
  clear kb1 kf1 HS1
  rintro W2 ⟨hsd, hbr⟩
  have kb := hsd.2.cells
  simp only [cellsAre, Nat.zero_add, Nat.reduceAdd, and_true] at kb
  have HS2 := Lib.hid (And.intro hsd hbr)
  have hs2 := hsd.2.lt
  clear hsd hbr
  have hown0 : World.ownsRow (W2.alloc (.cells #[] TSL)) w.heap.size TSL 1 (.slice (some ⟨W2.heap.size, 0, none⟩) 0 0) 0 [] := own_lit TSL 1 #[] 0 (Ext.size HS2.out.1.1) (by omega) rfl
  have hrv0 := (own_rvv HO.out.1).below (bt HS2.out.1.1 (Ext.allocR W2 (.cells #[] TSL)))
  have hone0 := RowsTx.one HO.out.1 HO.out.2
  have hsz0 : w.heap.size ≤ (W2.alloc (.cells #[] TSL)).heap.size := by have := Ext.size HS2.out.1.1; simp; omega
  have HP0 := Lib.hid (And.intro hown0 (And.intro hrv0 (And.intro hone0 hsz0)))
  clear hown0 hrv0 hone0 hsz0
  have hkey : ∀ v5 w5, World.ownsRow w5 w.heap.size TSL 1 v5 (0 + n) ([] ++ zs) → (W2.alloc (.cells #[] TSL)).grownBy w5 (Value.slice (some ⟨W2.heap.size, 0, none⟩) 0 0).ownBlock → Below w.heap.size (W2.alloc (.cells #[] TSL)) w5 → ∃ q5 c5, v5 = .slice (some ⟨q5, 0, none⟩) n c5 ∧ WtS w w5 H q5 n c5 #[.slice (some ⟨b, o, none⟩) n c, .bool dn, .bool a', .int .i64 lf'] zs := fun v5 w5 o5 g5 b5 => by
    rw [Nat.zero_add] at o5
    replace o5 : World.ownsRow w5 w.heap.size TSL 1 v5 n zs := o5
    obtain ⟨q5, c5, rfl⟩ := own_form0 o5 (by omega)
    exact ⟨q5, c5, rfl, ⟨Below.trans (bt HS2.out.1.1 (Ext.allocR _ _)) b5, grow_blk g5 HP0.out.1 (show TSL ≠ TRD by decide) (HS2.out.1.2.alloc _)⟩, grow_blk g5 HP0.out.1 (show TSL ≠ TRD by decide) (HS2.out.2.alloc _), o5⟩
  have KEY := Lib.hid hkey
  clear hkey
  go_upto_region 7 with (at_builtin; refine wpl_appR TSV TSL (.slice none 0 0) 1 24 sli_info Try.underlying73 rfl (by omega) (by omega) rfl _ _ rfl w.heap.size (.slice (some ⟨W2.heap.size, 0, none⟩) 0 0) 0 [] rfl HP0.out.1 (some ⟨b, o, none⟩) n c zs rfl HP0.out.2.1 HP0.out.2.2.1 (by omega) (by omega) HP0.out.2.2.2 ?_; intro v5 w5 o5 g5 b5; obtain ⟨q5, c5, rfl, wt⟩ := KEY.out _ _ o5 g5 b5; have WT := Lib.hid wt; clear o5 g5 b5 wt)
  clear HP0 KEY hs2 kb HS2
  have hst0 : SD w H #[.slice (some ⟨b, o, none⟩) n c, .bool dn, .bool a', .int .i64 lf'] w5.drew := WT.out.sd.ext (Ext.drew _)
  have kb := fun w' (hh : SD w H #[.slice (some ⟨b, o, none⟩) n c, .bool dn, .bool a', .int .i64 lf'] w') => hh.2.cells
  simp only [cellsAre, Nat.zero_add, Nat.reduceAdd, and_true] at kb
  have kz := fun w' (hh : SD w H #[.slice (some ⟨b, o, none⟩) n c, .bool dn, .bool a', .int .i64 lf'] w') => ext_cell hh.1 KZ.out
  have kc := fun w' (hh : SD w H #[.slice (some ⟨b, o, none⟩) n c, .bool dn, .bool a', .int .i64 lf'] w') => HCV.out w' hh.1
  refine wp_region_brn (S := (SD w H #[.slice (some ⟨b, o, none⟩) n c, .bool dn, .bool a', .int .i64 lf'])) (by kernel_rfl) (by kernel_rfl) (fun _ _ _ _ _ => ⟨fun h => h, fun h => h⟩) ?_
  intro hsel_ hQ_
  have WD := Lib.hid (WT.out.ext (Ext.drew w5))
  obtain ⟨wd, hwd⟩ : ∃ wd, w5.drew = wd := ⟨_, rfl⟩
  rw [hwd] at hst0 WD ⊢
  clear hwd
  refine wpB_chunk (f := 6) (L' := #[true, true, false, true, true, true, true, true, false, true, true, false, false, false, false]) hsel_ hQ_ [(0, true, some 37, none), (1, true, some 38, none), (3, true, some 40, none), (4, true, some 41, none), (5, true, some 42, none), (6, true, some 43, none), (7, true, some 44, none), (9, true, some 46, none), (10, true, some 47, none)] _ _ _ (by kernel_rfl) hst0 ?_
  repeat (first | (refine wpSeqB_pure (v := ?_) rfl ?_ ?_; rotate_left 1; (focus (intro wq_ hSq_; (try dsimp only at hSq_); go_simp; (try with_reducible rfl); done)); (try simp only [Act.put, List.setIfInBounds_toArray, List.set_cons_zero, List.set_cons_succ])) | (refine wpSeqB_pureG (v := ?_) rfl rfl ?_ ?_; rotate_left 1; (focus (intro wq_ hSq_; (try dsimp only at hSq_); go_simp; (try with_reducible rfl); done)); (try simp only [Act.put, List.setIfInBounds_toArray, List.set_cons_zero, List.set_cons_succ])) | (refine wpSeqB_off rfl rfl ?_; (try simp only [Act.put, List.setIfInBounds_toArray, List.set_cons_zero, List.set_cons_succ])) | (refine wpSeqB_offU rfl ?_; (try simp only [Act.put, List.setIfInBounds_toArray, List.set_cons_zero, List.set_cons_succ])))
  intro s0
  clear s0
  refine wpB_two 2 11 (by kernel_rfl) rfl rfl rfl rfl ?_ ?_
  · intro K hK
    go_simp
    have x1 : Ext wd (wd.alloc (.cells #[] TST)) := Ext.allocR _ _
    have S1 := Lib.hid (WD.out.ext x1)
    have s1 := S1.out.sd
    have O1 := Lib.hid (own_lit (base := w.heap.size) (w := wd) TST 1 #[] 0 (Ext.size WD.out.sd.1) (by omega) rfl)
    have hbz : w.heap.size ≤ (wd.alloc (.cells #[] TST)).heap.size := Nat.le_trans (Ext.size WD.out.sd.1) (Ext.size x1)
    have HBZ := Lib.hid hbz
    have HNE := Lib.hid (show wd.heap.size ≠ (wd.alloc (.cells #[] TST)).heap.size by simp)
    obtain ⟨P, hP⟩ : ∃ P, wd.heap.size = P := ⟨_, rfl⟩
    obtain ⟨y1, hy1⟩ : ∃ y1, wd.alloc (.cells #[] TST) = y1 := ⟨_, rfl⟩
    rw [hP] at O1 HNE ⊢
    rw [hy1] at S1 s1 O1 HBZ HNE ⊢
    clear hbz x1 hP hy1
    refine hK.out _ _ s1 ?_
    clear hK K
    (try simp only [List.getElem_toArray, List.getElem_cons_succ, List.getElem_cons_zero, Act.put, List.setIfInBounds_toArray, List.set_cons_zero, List.set_cons_succ])
    refine wpB_two 8 11 (by kernel_rfl) rfl rfl rfl rfl ?_ ?_
    · intro K hK
      refine wp_appR TSL TST (.string ByteArray.empty) 1 16 str_info Try.underlying127 rfl (by omega) (by omega) _ _ (by rfl) w.heap.size (.slice (some ⟨P, 0, none⟩) 0 0) 0 [] (by rfl) O1.out Az m cz (sc l) (by rfl) (RZ.out.below (S1.out).sd.1) (sc_one l) (by omega) (by omega) HBZ.out ?_
      intro v8 w8 o8 g8 b8
      rw [Nat.zero_add] at o8
      replace o8 : World.ownsRow w8 w.heap.size TST 1 v8 m (sc l) := o8
      obtain ⟨A8, c8, rfl, _⟩ := own_rv o8
      have S8 := Lib.hid ((S1.out).grow O1.out g8 b8)
      have s8 := S8.out.sd
      have O8 := Lib.hid o8
      have G8 := Lib.hid g8
      clear o8 g8 b8
      have S12 := Lib.hid (S8.out.ext (Ext.allocR w8 (.cells #[.string x] TST)))
      have s2 := S12.out.sd
      have O12 := Lib.hid (own_below O8.out (Ext.allocR w8 (.cells #[.string x] TST)))
      have R12 := Lib.hid (rv_lit (w := w8) TST 1 #[.string x] 1 (by omega) rfl)
      refine hK.out _ _ s8 ?_
      clear hK K
      (try simp only [List.getElem_toArray, List.getElem_cons_succ, List.getElem_cons_zero, Act.put, List.setIfInBounds_toArray, List.set_cons_zero, List.set_cons_succ])
      refine wpB_chunk (f := 0) (L' := #[true, true, true, true, true, true, true, true, true, true, true, true, true, true, true]) hsel_ hQ_ [(11, false, some 48, none), (12, false, some 49, none), (13, true, some 50, none), (14, false, none, none)] _ _ _ (by kernel_rfl) s8 ?_
      repeat (first | (refine wpSeqB_pure (v := ?_) rfl ?_ ?_; rotate_left 1; (focus (intro wq_ hSq_; (try dsimp only at hSq_); go_simp; (try with_reducible rfl); done)); (try simp only [Act.put, List.setIfInBounds_toArray, List.set_cons_zero, List.set_cons_succ])) | (refine wpSeqB_pureG (v := ?_) rfl rfl ?_ ?_; rotate_left 1; (focus (intro wq_ hSq_; (try dsimp only at hSq_); go_simp; (try with_reducible rfl); done)); (try simp only [Act.put, List.setIfInBounds_toArray, List.set_cons_zero, List.set_cons_succ])) | (refine wpSeqB_off rfl rfl ?_; (try simp only [Act.put, List.setIfInBounds_toArray, List.set_cons_zero, List.set_cons_succ])) | (refine wpSeqB_offU rfl ?_; (try simp only [Act.put, List.setIfInBounds_toArray, List.set_cons_zero, List.set_cons_succ])))
      first | refine wpSeqB_call rfl (fun K hK => ?_) | refine wpSeqB_callG rfl rfl (fun K hK => ?_)
      go_simp
      refine hK.out _ _ s2 ?_
      clear hK K
      (try simp only [List.getElem_toArray, List.getElem_cons_succ, List.getElem_cons_zero, Act.put, List.setIfInBounds_toArray, List.set_cons_zero, List.set_cons_succ])
      repeat (first | (refine wpSeqB_pure (v := ?_) rfl ?_ ?_; rotate_left 1; (focus (intro wq_ hSq_; (try dsimp only at hSq_); go_simp; (try with_reducible rfl); done)); (try simp only [Act.put, List.setIfInBounds_toArray, List.set_cons_zero, List.set_cons_succ])) | (refine wpSeqB_pureG (v := ?_) rfl rfl ?_ ?_; rotate_left 1; (focus (intro wq_ hSq_; (try dsimp only at hSq_); go_simp; (try with_reducible rfl); done)); (try simp only [Act.put, List.setIfInBounds_toArray, List.set_cons_zero, List.set_cons_succ])) | (refine wpSeqB_off rfl rfl ?_; (try simp only [Act.put, List.setIfInBounds_toArray, List.set_cons_zero, List.set_cons_succ])) | (refine wpSeqB_offU rfl ?_; (try simp only [Act.put, List.setIfInBounds_toArray, List.set_cons_zero, List.set_cons_succ])))
      first | refine wpSeqB_call rfl (fun K hK => ?_) | refine wpSeqB_callG rfl rfl (fun K hK => ?_)
      refine wp_appR TSL TST (.string ByteArray.empty) 1 16 str_info Try.underlying127 rfl (by omega) (by omega) _ _ (by rfl) w.heap.size (.slice A8 m c8) m (sc l) (by rfl) O12.out (some ⟨w8.heap.size, 0, none⟩) 1 1 [.string x] (by rfl) R12.out (fun u hu => by rw [List.mem_singleton.1 hu]; rfl) (by omega) (by omega) (Ext.size S12.out.sd.1) ?_
      intro v9 w9 o9 g9 b9
      obtain ⟨A9, c9, rfl, _⟩ := own_rv o9
      have S9 := Lib.hid (S12.out.grow O12.out g9 b9)
      have s9 := S9.out.sd
      have FIN := Lib.hid (S9.out.fin (l := l) (bs := bs) (v := .slice A9 (m + 1) c9) (by rw [HX.out, HM.out]; exact o9) HO.out.2 HN.out hkn)
      have f9 := S9.out.nx.frozenAt k
      obtain ⟨u9, k9⟩ := S9.out.at_ hkn
      clear o9 g9 b9
      refine hK.out _ _ s9 ?_
      clear hK K
      (try simp only [List.getElem_toArray, List.getElem_cons_succ, List.getElem_cons_zero, Act.put, List.setIfInBounds_toArray, List.set_cons_zero, List.set_cons_succ])
      repeat (first | (refine wpSeqB_pure (v := ?_) rfl ?_ ?_; rotate_left 1; (focus (intro wq_ hSq_; (try dsimp only at hSq_); go_simp; (try with_reducible rfl); done)); (try simp only [Act.put, List.setIfInBounds_toArray, List.set_cons_zero, List.set_cons_succ])) | (refine wpSeqB_pureG (v := ?_) rfl rfl ?_ ?_; rotate_left 1; (focus (intro wq_ hSq_; (try dsimp only at hSq_); go_simp; (try with_reducible rfl); done)); (try simp only [Act.put, List.setIfInBounds_toArray, List.set_cons_zero, List.set_cons_succ])) | (refine wpSeqB_off rfl rfl ?_; (try simp only [Act.put, List.setIfInBounds_toArray, List.set_cons_zero, List.set_cons_succ])) | (refine wpSeqB_offU rfl ?_; (try simp only [Act.put, List.setIfInBounds_toArray, List.set_cons_zero, List.set_cons_succ])))
      first | refine wpSeqB_call rfl (fun K hK => ?_) | refine wpSeqB_callG rfl rfl (fun K hK => ?_)
      go_simp
      obtain ⟨W10, hW10⟩ : ∃ W10, w9.setCell ⟨q5, k, none⟩ (.slice A9 (m + 1) c9) = W10 := ⟨_, rfl⟩
      rw [hW10] at FIN ⊢
      refine hK.out _ _ FIN.out.1 ?_
      clear hK K f9 k9 hW10 kz kc kb hst0
      intro s_
      clear s_
      refine wpB_end (by kernel_rfl) ?_
      have kb := FIN.out.1.2.cells
      have kf := FIN.out.1.2.free
      have kr := FIN.out.2.1.cells
      have kfr := FIN.out.2.1.free
      have hs1 := FIN.out.1.2.lt
      have hs2 := FIN.out.2.1.lt
      simp only [cellsAre, Nat.zero_add, Nat.reduceAdd, and_true] at kb kr
      have E9 := Lib.hid (((((FIN.out.1.1.setCell (p := ⟨H, 0, none⟩) hHw (.slice (some ⟨q5, 0, none⟩) n c5)).setCell (p := ⟨H + 1, 0, none⟩) hHw2 (.slice (some ⟨q5, 0, none⟩) n c5)).setCell (p := ⟨H + 1, 1, none⟩) hHw2 (.bool dn)).setCell (p := ⟨H + 1, 2, none⟩) hHw2 (.bool a')).setCell (p := ⟨H + 1, 3, none⟩) hHw2 (.int .i64 lf'))
      have r1 := FIN.out.2.1.far (p := ⟨H, 0, none⟩) (by simp) (.slice (some ⟨q5, 0, none⟩) n c5)
      have r2 := r1.set_ 0 (.slice (some ⟨q5, 0, none⟩) n c5)
      have r3 := r2.set_ 1 (.bool dn)
      have r4 := r3.set_ 2 (.bool a')
      have D9 := Lib.hid (((((FIN.out.2.2.setD FIN.out.1.2 0 (.slice (some ⟨q5, 0, none⟩) n c5)).setD r1 0 (.slice (some ⟨q5, 0, none⟩) n c5)).setD r2 1 (.bool dn)).setD r3 2 (.bool a')).setD r4 3 (.int .i64 lf'))
      clear r1 r2 r3 r4
      cases dn with
      | true =>
        have HE1 := Lib.hid (show er = 9 from HER.out.trans (if_pos rfl))
        go_wp2_with fail
        (try simp only [Exit.inBlock, Exit.then])
        refine bodyPost_ret (v := (.tuple #[.agg #[.slice (some ⟨q5, 0, none⟩) n c5, .bool true, .bool a', .int .i64 lf'], .int .i64 9])) (by simp [results, Try.results42, go_sem, *]) rfl ?_
        exact ⟨_, rfl, ⟨.agg #[.slice (some ⟨q5, 0, none⟩) n c5, .bool true, .bool a', .int .i64 lf'], by rw [HE1.out], ⟨some ⟨q5, 0, none⟩, n, c5, a', lf', rfl, D9.out, fun h => absurd h (by decide)⟩⟩, E9.out⟩
      | false =>
        have HE1 := Lib.hid (show er = 0 from HER.out.trans (if_neg Bool.false_ne_true))
        go_wp2_with fail
        (try simp only [Exit.inBlock, Exit.then])
        refine bodyPost_ret (v := (.tuple #[.agg #[.slice (some ⟨q5, 0, none⟩) n c5, .bool false, .bool a', .int .i64 lf'], .int .i64 0])) (by simp [results, Try.results42, go_sem, *]) rfl ?_
        exact ⟨_, rfl, ⟨.agg #[.slice (some ⟨q5, 0, none⟩) n c5, .bool false, .bool a', .int .i64 lf'], by rw [HE1.out], ⟨some ⟨q5, 0, none⟩, n, c5, a', lf', rfl, D9.out, fun _ => H4.out (by trivial)⟩⟩, E9.out⟩
    · intro K hK
      go_simp
      have x2 : Ext y1 (y1.alloc (.cells #[.string x] TST)) := Ext.allocR _ _
      have S2 := Lib.hid (S1.out.ext x2)
      have s2 := S2.out.sd
      have O2 := Lib.hid (own_below O1.out x2)
      have L2 := Lib.hid (own_lit (base := w.heap.size) (w := y1) TST 1 #[.string x] 1 HBZ.out (by omega) rfl)
      have HB2 := Lib.hid (Nat.le_trans HBZ.out (Ext.size x2))
      obtain ⟨P2, hP2⟩ : ∃ P2, y1.heap.size = P2 := ⟨_, rfl⟩
      obtain ⟨y2, hy2⟩ : ∃ y2, y1.alloc (.cells #[.string x] TST) = y2 := ⟨_, rfl⟩
      rw [hP2] at L2 HNE ⊢
      rw [hy2] at S2 s2 O2 L2 HB2 ⊢
      clear x2 hP2 hy2
      refine hK.out _ _ s2 ?_
      clear hK K
      (try simp only [List.getElem_toArray, List.getElem_cons_succ, List.getElem_cons_zero, Act.put, List.setIfInBounds_toArray, List.set_cons_zero, List.set_cons_succ])
      refine wpB_chunk (f := 0) (L' := #[true, true, true, true, true, true, true, true, true, true, true, true, true, true, true]) hsel_ hQ_ [(8, false, some 45, none), (12, false, some 49, none), (13, true, some 50, none), (14, false, none, none)] _ _ _ (by kernel_rfl) s2 ?_
      repeat (first | (refine wpSeqB_pure (v := ?_) rfl ?_ ?_; rotate_left 1; (focus (intro wq_ hSq_; (try dsimp only at hSq_); go_simp; (try with_reducible rfl); done)); (try simp only [Act.put, List.setIfInBounds_toArray, List.set_cons_zero, List.set_cons_succ])) | (refine wpSeqB_pureG (v := ?_) rfl rfl ?_ ?_; rotate_left 1; (focus (intro wq_ hSq_; (try dsimp only at hSq_); go_simp; (try with_reducible rfl); done)); (try simp only [Act.put, List.setIfInBounds_toArray, List.set_cons_zero, List.set_cons_succ])) | (refine wpSeqB_off rfl rfl ?_; (try simp only [Act.put, List.setIfInBounds_toArray, List.set_cons_zero, List.set_cons_succ])) | (refine wpSeqB_offU rfl ?_; (try simp only [Act.put, List.setIfInBounds_toArray, List.set_cons_zero, List.set_cons_succ])))
      first | refine wpSeqB_call rfl (fun K hK => ?_) | refine wpSeqB_callG rfl rfl (fun K hK => ?_)
      refine wp_appR TSL TST (.string ByteArray.empty) 1 16 str_info Try.underlying127 rfl (by omega) (by omega) _ _ (by rfl) w.heap.size (.slice (some ⟨P, 0, none⟩) 0 0) 0 [] (by rfl) O2.out Az m cz (sc l) (by rfl) (RZ.out.below (S2.out).sd.1) (sc_one l) (by omega) (by omega) HB2.out ?_
      intro v8 w8 o8 g8 b8
      rw [Nat.zero_add] at o8
      replace o8 : World.ownsRow w8 w.heap.size TST 1 v8 m (sc l) := o8
      obtain ⟨A8, c8, rfl, _⟩ := own_rv o8
      have S8 := Lib.hid ((S2.out).grow O2.out g8 b8)
      have s8 := S8.out.sd
      have O8 := Lib.hid o8
      have G8 := Lib.hid g8
      clear o8 g8 b8
      have S12 := Lib.hid S8.out
      have O12 := Lib.hid O8.out
      have R12 := Lib.hid (own_rvv (L2.out.kept G8.out (Or.inr (by show some P2 ≠ some P; intro e; injection e with e; exact HNE.out e.symm))))
      refine hK.out _ _ s8 ?_
      clear hK K
      (try simp only [List.getElem_toArray, List.getElem_cons_succ, List.getElem_cons_zero, Act.put, List.setIfInBounds_toArray, List.set_cons_zero, List.set_cons_succ])
      repeat (first | (refine wpSeqB_pure (v := ?_) rfl ?_ ?_; rotate_left 1; (focus (intro wq_ hSq_; (try dsimp only at hSq_); go_simp; (try with_reducible rfl); done)); (try simp only [Act.put, List.setIfInBounds_toArray, List.set_cons_zero, List.set_cons_succ])) | (refine wpSeqB_pureG (v := ?_) rfl rfl ?_ ?_; rotate_left 1; (focus (intro wq_ hSq_; (try dsimp only at hSq_); go_simp; (try with_reducible rfl); done)); (try simp only [Act.put, List.setIfInBounds_toArray, List.set_cons_zero, List.set_cons_succ])) | (refine wpSeqB_off rfl rfl ?_; (try simp only [Act.put, List.setIfInBounds_toArray, List.set_cons_zero, List.set_cons_succ])) | (refine wpSeqB_offU rfl ?_; (try simp only [Act.put, List.setIfInBounds_toArray, List.set_cons_zero, List.set_cons_succ])))
      first | refine wpSeqB_call rfl (fun K hK => ?_) | refine wpSeqB_callG rfl rfl (fun K hK => ?_)
      refine wp_appR TSL TST (.string ByteArray.empty) 1 16 str_info Try.underlying127 rfl (by omega) (by omega) _ _ (by rfl) w.heap.size (.slice A8 m c8) m (sc l) (by rfl) O12.out (some ⟨P2, 0, none⟩) 1 1 [.string x] (by rfl) R12.out (fun u hu => by rw [List.mem_singleton.1 hu]; rfl) (by omega) (by omega) (Ext.size S12.out.sd.1) ?_
      intro v9 w9 o9 g9 b9
      obtain ⟨A9, c9, rfl, _⟩ := own_rv o9
      have S9 := Lib.hid (S12.out.grow O12.out g9 b9)
      have s9 := S9.out.sd
      have FIN := Lib.hid (S9.out.fin (l := l) (bs := bs) (v := .slice A9 (m + 1) c9) (by rw [HX.out, HM.out]; exact o9) HO.out.2 HN.out hkn)
      have f9 := S9.out.nx.frozenAt k
      obtain ⟨u9, k9⟩ := S9.out.at_ hkn
      clear o9 g9 b9
      refine hK.out _ _ s9 ?_
      clear hK K
      (try simp only [List.getElem_toArray, List.getElem_cons_succ, List.getElem_cons_zero, Act.put, List.setIfInBounds_toArray, List.set_cons_zero, List.set_cons_succ])
      repeat (first | (refine wpSeqB_pure (v := ?_) rfl ?_ ?_; rotate_left 1; (focus (intro wq_ hSq_; (try dsimp only at hSq_); go_simp; (try with_reducible rfl); done)); (try simp only [Act.put, List.setIfInBounds_toArray, List.set_cons_zero, List.set_cons_succ])) | (refine wpSeqB_pureG (v := ?_) rfl rfl ?_ ?_; rotate_left 1; (focus (intro wq_ hSq_; (try dsimp only at hSq_); go_simp; (try with_reducible rfl); done)); (try simp only [Act.put, List.setIfInBounds_toArray, List.set_cons_zero, List.set_cons_succ])) | (refine wpSeqB_off rfl rfl ?_; (try simp only [Act.put, List.setIfInBounds_toArray, List.set_cons_zero, List.set_cons_succ])) | (refine wpSeqB_offU rfl ?_; (try simp only [Act.put, List.setIfInBounds_toArray, List.set_cons_zero, List.set_cons_succ])))
      first | refine wpSeqB_call rfl (fun K hK => ?_) | refine wpSeqB_callG rfl rfl (fun K hK => ?_)
      go_simp
      obtain ⟨W10, hW10⟩ : ∃ W10, w9.setCell ⟨q5, k, none⟩ (.slice A9 (m + 1) c9) = W10 := ⟨_, rfl⟩
      rw [hW10] at FIN ⊢
      refine hK.out _ _ FIN.out.1 ?_
      clear hK K f9 k9 hW10 kz kc kb hst0
      intro s_
      clear s_
      refine wpB_end (by kernel_rfl) ?_
      have kb := FIN.out.1.2.cells
      have kf := FIN.out.1.2.free
      have kr := FIN.out.2.1.cells
      have kfr := FIN.out.2.1.free
      have hs1 := FIN.out.1.2.lt
      have hs2 := FIN.out.2.1.lt
      simp only [cellsAre, Nat.zero_add, Nat.reduceAdd, and_true] at kb kr
      have E9 := Lib.hid (((((FIN.out.1.1.setCell (p := ⟨H, 0, none⟩) hHw (.slice (some ⟨q5, 0, none⟩) n c5)).setCell (p := ⟨H + 1, 0, none⟩) hHw2 (.slice (some ⟨q5, 0, none⟩) n c5)).setCell (p := ⟨H + 1, 1, none⟩) hHw2 (.bool dn)).setCell (p := ⟨H + 1, 2, none⟩) hHw2 (.bool a')).setCell (p := ⟨H + 1, 3, none⟩) hHw2 (.int .i64 lf'))
      have r1 := FIN.out.2.1.far (p := ⟨H, 0, none⟩) (by simp) (.slice (some ⟨q5, 0, none⟩) n c5)
      have r2 := r1.set_ 0 (.slice (some ⟨q5, 0, none⟩) n c5)
      have r3 := r2.set_ 1 (.bool dn)
      have r4 := r3.set_ 2 (.bool a')
      have D9 := Lib.hid (((((FIN.out.2.2.setD FIN.out.1.2 0 (.slice (some ⟨q5, 0, none⟩) n c5)).setD r1 0 (.slice (some ⟨q5, 0, none⟩) n c5)).setD r2 1 (.bool dn)).setD r3 2 (.bool a')).setD r4 3 (.int .i64 lf'))
      clear r1 r2 r3 r4
      cases dn with
      | true =>
        have HE1 := Lib.hid (show er = 9 from HER.out.trans (if_pos rfl))
        go_wp2_with fail
        (try simp only [Exit.inBlock, Exit.then])
        refine bodyPost_ret (v := (.tuple #[.agg #[.slice (some ⟨q5, 0, none⟩) n c5, .bool true, .bool a', .int .i64 lf'], .int .i64 9])) (by simp [results, Try.results42, go_sem, *]) rfl ?_
        exact ⟨_, rfl, ⟨.agg #[.slice (some ⟨q5, 0, none⟩) n c5, .bool true, .bool a', .int .i64 lf'], by rw [HE1.out], ⟨some ⟨q5, 0, none⟩, n, c5, a', lf', rfl, D9.out, fun h => absurd h (by decide)⟩⟩, E9.out⟩
      | false =>
        have HE1 := Lib.hid (show er = 0 from HER.out.trans (if_neg Bool.false_ne_true))
        go_wp2_with fail
        (try simp only [Exit.inBlock, Exit.then])
        refine bodyPost_ret (v := (.tuple #[.agg #[.slice (some ⟨q5, 0, none⟩) n c5, .bool false, .bool a', .int .i64 lf'], .int .i64 0])) (by simp [results, Try.results42, go_sem, *]) rfl ?_
        exact ⟨_, rfl, ⟨.agg #[.slice (some ⟨q5, 0, none⟩) n c5, .bool false, .bool a', .int .i64 lf'], by rw [HE1.out], ⟨some ⟨q5, 0, none⟩, n, c5, a', lf', rfl, D9.out, fun _ => H4.out (by trivial)⟩⟩, E9.out⟩
  · intro K hK
    go_simp
    have x1 : Ext wd (wd.alloc (.cells #[.string x] TST)) := Ext.allocR _ _
    have S1 := Lib.hid (WD.out.ext x1)
    have s1 := S1.out.sd
    have L1 := Lib.hid (own_lit (base := w.heap.size) (w := wd) TST 1 #[.string x] 1 (Ext.size WD.out.sd.1) (by omega) rfl)
    have HBZ := Lib.hid (Nat.le_trans (Ext.size WD.out.sd.1) (Ext.size x1))
    have HNE := Lib.hid (show wd.heap.size ≠ (wd.alloc (.cells #[.string x] TST)).heap.size by simp)
    obtain ⟨P2, hP⟩ : ∃ P, wd.heap.size = P := ⟨_, rfl⟩
    obtain ⟨y1, hy1⟩ : ∃ y1, wd.alloc (.cells #[.string x] TST) = y1 := ⟨_, rfl⟩
    rw [hP] at L1 HNE ⊢
    rw [hy1] at S1 s1 L1 HBZ HNE ⊢
    clear x1 hP hy1
    refine hK.out _ _ s1 ?_
    clear hK K
    (try simp only [List.getElem_toArray, List.getElem_cons_succ, List.getElem_cons_zero, Act.put, List.setIfInBounds_toArray, List.set_cons_zero, List.set_cons_succ])
    refine wpB_chunk (f := 0) (L' := #[true, true, true, true, true, true, true, true, true, true, true, true, true, true, true]) hsel_ hQ_ [(2, false, some 39, none), (8, false, some 45, none), (12, false, some 49, none), (13, true, some 50, none), (14, false, none, none)] _ _ _ (by kernel_rfl) s1 ?_
    repeat (first | (refine wpSeqB_pure (v := ?_) rfl ?_ ?_; rotate_left 1; (focus (intro wq_ hSq_; (try dsimp only at hSq_); go_simp; (try with_reducible rfl); done)); (try simp only [Act.put, List.setIfInBounds_toArray, List.set_cons_zero, List.set_cons_succ])) | (refine wpSeqB_pureG (v := ?_) rfl rfl ?_ ?_; rotate_left 1; (focus (intro wq_ hSq_; (try dsimp only at hSq_); go_simp; (try with_reducible rfl); done)); (try simp only [Act.put, List.setIfInBounds_toArray, List.set_cons_zero, List.set_cons_succ])) | (refine wpSeqB_off rfl rfl ?_; (try simp only [Act.put, List.setIfInBounds_toArray, List.set_cons_zero, List.set_cons_succ])) | (refine wpSeqB_offU rfl ?_; (try simp only [Act.put, List.setIfInBounds_toArray, List.set_cons_zero, List.set_cons_succ])))
    first | refine wpSeqB_call rfl (fun K hK => ?_) | refine wpSeqB_callG rfl rfl (fun K hK => ?_)
    go_simp
    have x2 : Ext y1 (y1.alloc (.cells #[] TST)) := Ext.allocR _ _
    have S2 := Lib.hid (S1.out.ext x2)
    have s2 := S2.out.sd
    have L2 := Lib.hid (own_below L1.out x2)
    have O2 := Lib.hid (own_lit (base := w.heap.size) (w := y1) TST 1 #[] 0 HBZ.out (by omega) rfl)
    have HB2 := Lib.hid (Nat.le_trans HBZ.out (Ext.size x2))
    obtain ⟨P, hP2⟩ : ∃ P, y1.heap.size = P := ⟨_, rfl⟩
    obtain ⟨y2, hy2⟩ : ∃ y2, y1.alloc (.cells #[] TST) = y2 := ⟨_, rfl⟩
    rw [hP2] at O2 HNE ⊢
    rw [hy2] at S2 s2 O2 L2 HB2 ⊢
    clear x2 hP2 hy2
    refine hK.out _ _ s2 ?_
    clear hK K
    (try simp only [List.getElem_toArray, List.getElem_cons_succ, List.getElem_cons_zero, Act.put, List.setIfInBounds_toArray, List.set_cons_zero, List.set_cons_succ])
    repeat (first | (refine wpSeqB_pure (v := ?_) rfl ?_ ?_; rotate_left 1; (focus (intro wq_ hSq_; (try dsimp only at hSq_); go_simp; (try with_reducible rfl); done)); (try simp only [Act.put, List.setIfInBounds_toArray, List.set_cons_zero, List.set_cons_succ])) | (refine wpSeqB_pureG (v := ?_) rfl rfl ?_ ?_; rotate_left 1; (focus (intro wq_ hSq_; (try dsimp only at hSq_); go_simp; (try with_reducible rfl); done)); (try simp only [Act.put, List.setIfInBounds_toArray, List.set_cons_zero, List.set_cons_succ])) | (refine wpSeqB_off rfl rfl ?_; (try simp only [Act.put, List.setIfInBounds_toArray, List.set_cons_zero, List.set_cons_succ])) | (refine wpSeqB_offU rfl ?_; (try simp only [Act.put, List.setIfInBounds_toArray, List.set_cons_zero, List.set_cons_succ])))
    first | refine wpSeqB_call rfl (fun K hK => ?_) | refine wpSeqB_callG rfl rfl (fun K hK => ?_)
    refine wp_appR TSL TST (.string ByteArray.empty) 1 16 str_info Try.underlying127 rfl (by omega) (by omega) _ _ (by rfl) w.heap.size (.slice (some ⟨P, 0, none⟩) 0 0) 0 [] (by rfl) O2.out Az m cz (sc l) (by rfl) (RZ.out.below (S2.out).sd.1) (sc_one l) (by omega) (by omega) HB2.out ?_
    intro v8 w8 o8 g8 b8
    rw [Nat.zero_add] at o8
    replace o8 : World.ownsRow w8 w.heap.size TST 1 v8 m (sc l) := o8
    obtain ⟨A8, c8, rfl, _⟩ := own_rv o8
    have S8 := Lib.hid ((S2.out).grow O2.out g8 b8)
    have s8 := S8.out.sd
    have O8 := Lib.hid o8
    have G8 := Lib.hid g8
    clear o8 g8 b8
    have S12 := Lib.hid S8.out
    have O12 := Lib.hid O8.out
    have R12 := Lib.hid (own_rvv (L2.out.kept G8.out (Or.inr (by show some P2 ≠ some P; intro e; injection e with e; exact HNE.out e))))
    refine hK.out _ _ s8 ?_
    clear hK K
    (try simp only [List.getElem_toArray, List.getElem_cons_succ, List.getElem_cons_zero, Act.put, List.setIfInBounds_toArray, List.set_cons_zero, List.set_cons_succ])
    repeat (first | (refine wpSeqB_pure (v := ?_) rfl ?_ ?_; rotate_left 1; (focus (intro wq_ hSq_; (try dsimp only at hSq_); go_simp; (try with_reducible rfl); done)); (try simp only [Act.put, List.setIfInBounds_toArray, List.set_cons_zero, List.set_cons_succ])) | (refine wpSeqB_pureG (v := ?_) rfl rfl ?_ ?_; rotate_left 1; (focus (intro wq_ hSq_; (try dsimp only at hSq_); go_simp; (try with_reducible rfl); done)); (try simp only [Act.put, List.setIfInBounds_toArray, List.set_cons_zero, List.set_cons_succ])) | (refine wpSeqB_off rfl rfl ?_; (try simp only [Act.put, List.setIfInBounds_toArray, List.set_cons_zero, List.set_cons_succ])) | (refine wpSeqB_offU rfl ?_; (try simp only [Act.put, List.setIfInBounds_toArray, List.set_cons_zero, List.set_cons_succ])))
    first | refine wpSeqB_call rfl (fun K hK => ?_) | refine wpSeqB_callG rfl rfl (fun K hK => ?_)
    refine wp_appR TSL TST (.string ByteArray.empty) 1 16 str_info Try.underlying127 rfl (by omega) (by omega) _ _ (by rfl) w.heap.size (.slice A8 m c8) m (sc l) (by rfl) O12.out (some ⟨P2, 0, none⟩) 1 1 [.string x] (by rfl) R12.out (fun u hu => by rw [List.mem_singleton.1 hu]; rfl) (by omega) (by omega) (Ext.size S12.out.sd.1) ?_
    intro v9 w9 o9 g9 b9
    obtain ⟨A9, c9, rfl, _⟩ := own_rv o9
    have S9 := Lib.hid (S12.out.grow O12.out g9 b9)
    have s9 := S9.out.sd
    have FIN := Lib.hid (S9.out.fin (l := l) (bs := bs) (v := .slice A9 (m + 1) c9) (by rw [HX.out, HM.out]; exact o9) HO.out.2 HN.out hkn)
    have f9 := S9.out.nx.frozenAt k
    obtain ⟨u9, k9⟩ := S9.out.at_ hkn
    clear o9 g9 b9
    refine hK.out _ _ s9 ?_
    clear hK K
    (try simp only [List.getElem_toArray, List.getElem_cons_succ, List.getElem_cons_zero, Act.put, List.setIfInBounds_toArray, List.set_cons_zero, List.set_cons_succ])
    repeat (first | (refine wpSeqB_pure (v := ?_) rfl ?_ ?_; rotate_left 1; (focus (intro wq_ hSq_; (try dsimp only at hSq_); go_simp; (try with_reducible rfl); done)); (try simp only [Act.put, List.setIfInBounds_toArray, List.set_cons_zero, List.set_cons_succ])) | (refine wpSeqB_pureG (v := ?_) rfl rfl ?_ ?_; rotate_left 1; (focus (intro wq_ hSq_; (try dsimp only at hSq_); go_simp; (try with_reducible rfl); done)); (try simp only [Act.put, List.setIfInBounds_toArray, List.set_cons_zero, List.set_cons_succ])) | (refine wpSeqB_off rfl rfl ?_; (try simp only [Act.put, List.setIfInBounds_toArray, List.set_cons_zero, List.set_cons_succ])) | (refine wpSeqB_offU rfl ?_; (try simp only [Act.put, List.setIfInBounds_toArray, List.set_cons_zero, List.set_cons_succ])))
    first | refine wpSeqB_call rfl (fun K hK => ?_) | refine wpSeqB_callG rfl rfl (fun K hK => ?_)
    go_simp
    obtain ⟨W10, hW10⟩ : ∃ W10, w9.setCell ⟨q5, k, none⟩ (.slice A9 (m + 1) c9) = W10 := ⟨_, rfl⟩
    rw [hW10] at FIN ⊢
    refine hK.out _ _ FIN.out.1 ?_
    clear hK K f9 k9 hW10 kz kc kb hst0
    intro s_
    clear s_
    refine wpB_end (by kernel_rfl) ?_
    have kb := FIN.out.1.2.cells
    have kf := FIN.out.1.2.free
    have kr := FIN.out.2.1.cells
    have kfr := FIN.out.2.1.free
    have hs1 := FIN.out.1.2.lt
    have hs2 := FIN.out.2.1.lt
    simp only [cellsAre, Nat.zero_add, Nat.reduceAdd, and_true] at kb kr
    have E9 := Lib.hid (((((FIN.out.1.1.setCell (p := ⟨H, 0, none⟩) hHw (.slice (some ⟨q5, 0, none⟩) n c5)).setCell (p := ⟨H + 1, 0, none⟩) hHw2 (.slice (some ⟨q5, 0, none⟩) n c5)).setCell (p := ⟨H + 1, 1, none⟩) hHw2 (.bool dn)).setCell (p := ⟨H + 1, 2, none⟩) hHw2 (.bool a')).setCell (p := ⟨H + 1, 3, none⟩) hHw2 (.int .i64 lf'))
    have r1 := FIN.out.2.1.far (p := ⟨H, 0, none⟩) (by simp) (.slice (some ⟨q5, 0, none⟩) n c5)
    have r2 := r1.set_ 0 (.slice (some ⟨q5, 0, none⟩) n c5)
    have r3 := r2.set_ 1 (.bool dn)
    have r4 := r3.set_ 2 (.bool a')
    have D9 := Lib.hid (((((FIN.out.2.2.setD FIN.out.1.2 0 (.slice (some ⟨q5, 0, none⟩) n c5)).setD r1 0 (.slice (some ⟨q5, 0, none⟩) n c5)).setD r2 1 (.bool dn)).setD r3 2 (.bool a')).setD r4 3 (.int .i64 lf'))
    clear r1 r2 r3 r4
    cases dn with
    | true =>
      have HE1 := Lib.hid (show er = 9 from HER.out.trans (if_pos rfl))
      go_wp2_with fail
      (try simp only [Exit.inBlock, Exit.then])
      refine bodyPost_ret (v := (.tuple #[.agg #[.slice (some ⟨q5, 0, none⟩) n c5, .bool true, .bool a', .int .i64 lf'], .int .i64 9])) (by simp [results, Try.results42, go_sem, *]) rfl ?_
      exact ⟨_, rfl, ⟨.agg #[.slice (some ⟨q5, 0, none⟩) n c5, .bool true, .bool a', .int .i64 lf'], by rw [HE1.out], ⟨some ⟨q5, 0, none⟩, n, c5, a', lf', rfl, D9.out, fun h => absurd h (by decide)⟩⟩, E9.out⟩
    | false =>
      have HE1 := Lib.hid (show er = 0 from HER.out.trans (if_neg Bool.false_ne_true))
      go_wp2_with fail
      (try simp only [Exit.inBlock, Exit.then])
      refine bodyPost_ret (v := (.tuple #[.agg #[.slice (some ⟨q5, 0, none⟩) n c5, .bool false, .bool a', .int .i64 lf'], .int .i64 0])) (by simp [results, Try.results42, go_sem, *]) rfl ?_
      exact ⟨_, rfl, ⟨.agg #[.slice (some ⟨q5, 0, none⟩) n c5, .bool false, .bool a', .int .i64 lf'], by rw [HE1.out], ⟨some ⟨q5, 0, none⟩, n, c5, a', lf', rfl, D9.out, fun _ => H4.out (by trivial)⟩⟩, E9.out⟩
end Go.Proofs.Tb
