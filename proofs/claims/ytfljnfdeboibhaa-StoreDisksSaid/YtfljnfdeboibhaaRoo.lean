/- Contract of the disk's Clone. -/
import Derived.Test.YtfljnfdeboibhaaRon
set_option linter.unusedVariables false
set_option linter.unusedSimpArgs false
namespace Go.Proofs.Tb
open Go.Maps Go.RowKit Go.Lib
attribute [local go_sem] cell_set_same neqMapL

variable {w : World} {d : Nat} {g : Dkg} {cur : List (List Nat)} {bl : List (List (List Nat))} {down : Bool} {left : Nat}
theorem bb_one {w : World} {v : Value} {n : Nat} {xs : List Value} {k base : Nat} {T : TypeId} (h : w.ownsRow base T k v n xs) : ∀ u ∈ xs, (∃ A m c, u = Value.slice A m c) → u.oneCell' = true := fun u _ ⟨A, m, c, e⟩ => by subst e; rfl
/-- Where Clone's loop stands: what is no longer to come has been laid into the new map. -/
structure ClS (w W : World) (d2 m2 : Nat) (A2 : Option Addr) (c2 : Nat) (g : Dkg) (cur : List (List Nat)) (bl : List (List (List Nat))) (down : Bool) (left : Nat) (lf : Lit → Bool) (cnt : Nat) (Dout : DataW Value) (Lv2 : Nat → Value) : Prop where
  dk : Blk W d2 TDK #[.slice A2 cur.length c2, .map (some m2), .bool down, .int .i64 (left : Int)]
  row : W.ownsRow w.heap.size TBY 1 (.slice A2 cur.length c2) cur.length g.vs
  mp : W.ownsMap Try.prog TIN RH m2 (Maps.size g.D - cnt) Dout
  keys : ∀ l, Maps.has Dout l = true → Maps.has g.D l = true ∧ lf l = false
  yes : ∀ k, k < cur.length → g.lo k = true → lf (kI k) = false → Maps.has Dout (kI k) = true ∧ (∀ z, Dout.atKey (kI k) z = .held (Lv2 k)) ∧ W.ownsRow w.heap.size TBY 1 (Lv2 k) (bl.getD k []).length (g.us k)
  apart : ∀ k, k < cur.length → g.lo k = true → lf (kI k) = false → ∀ b, (Lv2 k).ownBlock = some b → (Value.slice A2 cur.length c2).ownBlock ≠ some b ∧ ∀ j, j < cur.length → j ≠ k → g.lo j = true → lf (kI j) = false → (Lv2 j).ownBlock ≠ some b
  ex : Ext w W
  m2w : w.heap.size ≤ m2
  d2w : w.heap.size ≤ d2
theorem ClS.ext {w W W' : World} {d2 m2 c2 cnt : Nat} {A2 : Option Addr} {lf : Lit → Bool} {Dout : DataW Value} {Lv2 : Nat → Value} (h : ClS w W d2 m2 A2 c2 g cur bl down left lf cnt Dout Lv2) (hx : Ext W W') : ClS w W' d2 m2 A2 c2 g cur bl down left lf cnt Dout Lv2 :=
  ⟨h.dk.below hx, own_below h.row hx, map_chg2 h.mp (X := fun _ _ => False) (Chg.ext hx) fun _ _ h => h, h.keys, fun k hk hl hlf => by
    obtain ⟨a, b, c⟩ := h.yes k hk hl hlf
    exact ⟨a, b, own_below c hx⟩, h.apart, bt h.ex hx, h.m2w, h.d2w⟩
theorem ClS.turn {w W W' : World} {d2 m2 c2 cnt r : Nat} {A2 : Option Addr} {lf : Lit → Bool} {Dout : DataW Value} {Lv2 : Nat → Value} (h : ClS w W d2 m2 A2 c2 g cur bl down left lf cnt Dout Lv2) (hg : W.grownBy W' (some r)) (hr : ∀ cs T, W.heap[r]? ≠ some (.cells cs T (0, 0))) (hrm : ∀ es c, W.heap[r]? ≠ some (.map es c)) (hw : w.heap.size ≤ r) : ClS w W' d2 m2 A2 c2 g cur bl down left lf cnt Dout Lv2 := by
  have hc : Chg (fun b o => b = r ∧ W.heap[r]? = some o) W W' := Chg.grow hg fun b o e hb => by
    injection e with e
    subst e
    exact ⟨rfl, hb⟩
  exact ⟨hc.blk h.dk fun hX => hr _ _ hX.2, hc.own h.row fun b cs _ hX => hr _ _ hX.2, map_chg2 h.mp hc fun es c hX => hrm _ _ hX.2, h.keys, fun k hk hl hlf => by
    obtain ⟨a, b, c⟩ := h.yes k hk hl hlf
    exact ⟨a, b, hc.own c fun b cs _ hX => hr _ _ hX.2⟩, h.apart, ext_chg h.ex hc fun b o hX => by rw [hX.1]; exact hw, h.m2w, h.d2w⟩
/-- One entry more. -/
theorem ClS.put {w W W1 : World} {d2 m2 c2 cnt cnt1 : Nat} {A2 : Option Addr} {lf : Lit → Bool} {Dout : DataW Value} {Lv2 : Nat → Value} (h : ClS w W d2 m2 A2 c2 g cur bl down left lf cnt Dout Lv2) (hx : Ext W W1) {k : Nat} (hk : k < cur.length) (hk9 : k ≤ 1000000) (hlo : g.lo k = true) (hhas : Maps.has g.D (kI k) = true) (hlf : lf (kI k) = true) {A : Option Addr} {n c : Nat} (hrow : W1.ownsRow W.heap.size TBY 1 (.slice A n c) n (g.us k)) (hn : (bl.getD k []).length = n) (hn1 : 1 ≤ n) (hsz : Maps.size g.D ≤ 1000000) (hcnt : cnt1 < cnt) (hcs : cnt ≤ Maps.size g.D) :
    ∃ w3, (Instr.mapUpdate TLM (.map (some m2)) (.int .i64 (k : Int)) (.slice A n c)).run Try.prog W1 = .ok () w3 ∧ W1.mapTurned w3 m2 ∧ ClS w w3 d2 m2 A2 c2 g cur bl down left (fun z => lf z && !z.sameKey (kI k)) cnt1 (Dout.put (kI k) (.held (.slice A n c))) (fun j => if j = k then .slice A n c else Lv2 j) := by
  have h1 := h.ext hx
  obtain ⟨w3, hrun, hm3, ht⟩ := World.ownsMap.store (H := Value) h1.mp lawL Try.underlying67 (by unfold maxLen; omega) (key := .int .i64 (k : Int)) (keyK (k := k) (by omega)) (R := RH) (val := .slice A n c) (d := .held (.slice A n c)) (ps := []) rfl
  have hc : Chg (XMp m2) W1 w3 := Chg.turn ht fun es c => ⟨rfl, es, c, rfl⟩
  have hT := h.mp.tidy lawL
  have hkl : WideAt.IsKeyLit (kI k) := trivial
  have hsame : ∀ j, (kI j).sameKey (kI k) = decide (j = k) := fun j => by
    by_cases e : j = k
    · subst e
      rw [decide_eq_true rfl]
      exact WideAt.sameKey_self hkl
    · rw [decide_eq_false e]
      have : ¬ (j : Int) = (k : Int) := by omega
      simp [Lit.sameKey, kI, this]
  have hfr : ∀ j, j ≠ k → (if j = k then Value.slice A n c else Lv2 j) = Lv2 j := fun j e => if_neg e
  have hfk : (if k = k then Value.slice A n c else Lv2 k) = Value.slice A n c := if_pos rfl
  refine ⟨w3, hrun, ht, hc.blk h1.dk (XMp.no _ _ _), hc.own h1.row fun b cs _ => XMp.no _ _ _, hm3.mono (by omega), fun l hl => ?_, fun j hj hjl hjf => ?_, fun j hj hjl hjf b hb => ?_, ext_chg h1.ex hc fun b o hX => by rw [hX.1]; exact h.m2w, h.m2w, h.d2w⟩
  · by_cases e : l = kI k
    · subst e
      refine ⟨hhas, ?_⟩
      rw [WideAt.sameKey_self hkl]
      simp
    · rw [has_put_other e] at hl
      obtain ⟨a, b⟩ := h.keys l hl
      exact ⟨a, by rw [b]; rfl⟩
  · by_cases e : j = k
    · subst e
      refine ⟨has_put_same hT.isMap hkl _, fun z => ?_, ?_⟩
      · rw [hfk]; exact atKey_put_same hT.isMap hkl _ z
      · rw [hfk, hn]
        exact hc.own (own_lower hrow (Ext.size h.ex)) fun b cs _ => XMp.no _ _ _
    · have hjf' : lf (kI j) = false := by
        rw [hsame j, decide_eq_false e] at hjf
        simpa using hjf
      obtain ⟨a, b, c'⟩ := h1.yes j hj hjl hjf'
      refine ⟨?_, fun z => ?_, ?_⟩
      · rw [has_put_other (kI_ne e)]; exact a
      · rw [atKey_put_other (kI_ne e), hfr j e]; exact b z
      · rw [hfr j e]; exact hc.own c' fun b cs _ => XMp.no _ _ _
  · have hnew : ∀ b, (Value.slice A n c).ownBlock = some b → (Value.slice A2 cur.length c2).ownBlock ≠ some b ∧ ∀ i, i < cur.length → g.lo i = true → lf (kI i) = false → (Lv2 i).ownBlock ≠ some b := fun b hb => by
      have hge := own_geE hrow b hb
      refine ⟨fun e => ?_, fun i hi hil hif e => ?_⟩
      · have := own_lt h.row b e
        omega
      · have := own_lt (h.yes i hi hil hif).2.2 b e
        omega
    by_cases e : j = k
    · subst e
      rw [hfk] at hb
      refine ⟨(hnew b hb).1, fun i hi hij hil hif => ?_⟩
      rw [hfr i hij]
      exact (hnew b hb).2 i hi hil (by rw [hsame i, decide_eq_false hij] at hif; simpa using hif)
    · have hjf' : lf (kI j) = false := by
        rw [hsame j, decide_eq_false e] at hjf
        simpa using hjf
      rw [hfr j e] at hb
      obtain ⟨a1, a2⟩ := h.apart j hj hjl hjf' b hb
      refine ⟨a1, fun i hi hij hil hif => ?_⟩
      by_cases ei : i = k
      · subst ei
        rw [hfk]
        intro e3
        exact (hnew b e3).2 j hj hjl hjf' hb
      · rw [hfr i ei]
        exact a2 i hi hij hil (by rw [hsame i, decide_eq_false ei] at hif; simpa using hif)
/-- At the end it is a disk. -/
theorem ClS.done {w W : World} {d2 m2 c2 cnt : Nat} {A2 : Option Addr} {lf : Lit → Bool} {Dout : DataW Value} {Lv2 : Nat → Value} (h : ClS w W d2 m2 A2 c2 g cur bl down left lf cnt Dout Lv2) (hd : DI W d g cur bl down left) (hl : ∀ l, lf l = false) :
    DI W d2 ⟨m2, .slice A2 cur.length c2, g.vs, Dout, Lv2, g.us, g.lo⟩ cur bl down left :=
  ⟨h.dk, hd.lft, own_lower h.row (Nat.zero_le _), hd.len, hd.few, own_tight h.mp, hd.sees, fun l hl2 => hd.keys l (h.keys l hl2).1, fun k hk hlo => (by
    cases hh : Maps.has Dout (kI k) with
    | false => rfl
    | true =>
      have := hd.no k hk hlo
      rw [(h.keys _ hh).1] at this
      cases this), fun k hk hlo => by
    obtain ⟨a, b, c⟩ := h.yes k hk hlo (hl _)
    exact ⟨a, b, own_lower c (Nat.zero_le _), (hd.yes k hk hlo).2.2.2⟩, hd.ne, fun k hk hlo b hb => by
    obtain ⟨a1, a2⟩ := h.apart k hk hlo (hl _) b hb
    exact ⟨a1, fun j hj hjk hjl => a2 j hj hjk hjl (hl _)⟩⟩
/-- Clone's loop at its start. -/
theorem ClS.start {w W : World} {d2 m2 c2 : Nat} {A2 : Option Addr} (hx : Ext w W) (hdk : Blk W d2 TDK #[.slice A2 cur.length c2, .map (some m2), .bool down, .int .i64 (left : Int)]) (hrow : W.ownsRow w.heap.size TBY 1 (.slice A2 cur.length c2) cur.length g.vs) (hm : W.ownsMap Try.prog TIN RH m2 0 (.map [])) (hm2 : w.heap.size ≤ m2) (hd2 : w.heap.size ≤ d2) (hd : DI w d g cur bl down left) :
    ClS w W d2 m2 A2 c2 g cur bl down left (Maps.has g.D) (Maps.size g.D) (.map []) (fun _ => nlB) := by
  have hno : ∀ l, Maps.has (.map [] : DataW Value) l = false := fun l => rfl
  refine ⟨hdk, hrow, by rw [Nat.sub_self]; exact hm, fun l hl => (by rw [hno] at hl; cases hl), fun k hk hlo hf => ?_, fun k hk hlo hf => ?_, hx, hm2, hd2⟩
  · rw [(hd.yes k hk hlo).1] at hf; cases hf
  · rw [(hd.yes k hk hlo).1] at hf; cases hf
theorem us_one {w : World} (h : DI w d g cur bl down left) {k : Nat} (hk : k < cur.length) (hlo : g.lo k = true) : ∀ u ∈ g.us k, u.oneCell' = true := fun u hu => by
  obtain ⟨j, hj, rfl⟩ := List.getElem_of_mem hu
  have hl : (g.us k).length = (bl.getD k []).length * 1 := (h.yes k hk hlo).2.2.1.1
  have hs := (h.yes k hk hlo).2.2.2 j (by omega)
  rw [List.getD_eq_getElem?_getD, List.getElem?_eq_getElem hj] at hs
  exact hs.one
theorem vs_one {w : World} (h : DI w d g cur bl down left) : ∀ u ∈ g.vs, u.oneCell' = true := fun u hu => by
  obtain ⟨j, hj, rfl⟩ := List.getElem_of_mem hu
  have hl : g.vs.length = cur.length * 1 := h.row.1
  have hs := h.sees j (by omega)
  rw [List.getD_eq_getElem?_getD, List.getElem?_eq_getElem hj] at hs
  exact hs.one
set_option maxHeartbeats 6400000 in
set_option maxRecDepth 100000 in
theorem rdclone_di (h : DI w d g cur bl down left) (hn : cur ≠ []) (hfew : ∀ k, (bl.getD k []).length ≤ 1000000) :
    Calls Try.prog 34 #[.pointer (some ⟨d, 0, none⟩)] w (Ret (fun z w' => ∃ d2 g2, z = .pointer (some ⟨d2, 0, none⟩) ∧ DI w' d2 g2 cur bl down left ∧ (g2.lo = g.lo ∧ g2.vs = g.vs ∧ g2.us = g.us) ∧ ∀ b, g2.fp d2 cur.length b → w.heap.size ≤ b) w) := by
  obtain ⟨gb, cap, hv, hc1, hc2, hb⟩ := h.form hn
  have hfw := h.few
  have hnn : 1 ≤ cur.length := List.length_pos_iff.2 hn
  have hmm := @run_makeMap Try.prog
  have HRW := Lib.hid (show Rv w 1 (some ⟨gb, 0, none⟩) cur.length cap g.vs by have := h.row; rw [hv] at this; exact own_rvv this)
  have HD := Lib.hid h
  have HB := Lib.hid hb
  have HFW := Lib.hid hfew
  obtain ⟨n, hnl⟩ : ∃ n, cur.length = n := ⟨_, rfl⟩
  have HNL := Lib.hid hnl
  rw [hnl] at hb hc1 hfw hnn HRW
  clear h hn hv hfew hb
  go_enter Try.func34, Try.ntmps34
  go_wp2_with fail
  refine (rmade_any d g.m _ down left w HB.out).mono ?_
  rintro e w1 ⟨v1, rfl, rfl, b1⟩
  have X1 := Lib.hid (show Ext w w1 from b1)
  clear b1
  go_upto_region 3 with fail
  have kk := fun W (hh : Ext w W) => (HB.out.below hh).cells
  rw [HNL.out] at kk
  simp only [cellsAre, Nat.zero_add, Nat.reduceAdd, and_true] at kk
  have hst : Ext w w1.drew := bt X1.out (Ext.drew _)
  go_cut [3] (fun s3 wx => ∃ d2 m2 A2 c2, s3 = .pointer (some ⟨d2, 0, none⟩) ∧ ClS w wx d2 m2 A2 c2 g cur bl down left (Maps.has g.D) (Maps.size g.D) (.map []) (fun _ => nlB))
  case first =>
    refine wp_region_brn (S := (Ext w)) (by kernel_rfl) (by kernel_rfl) (fun _ _ _ _ _ => ⟨fun h => h, fun h => h⟩) ?_
    intro hsel_ hQ_
    obtain ⟨wd, hwd⟩ : ∃ wd, w1.drew = wd := ⟨_, rfl⟩
    rw [hwd] at hst ⊢
    clear hwd
    refine wpB_chunk (f := 5) (L' := #[true, true, true, true, false, false, true, true, true, true, true, true, true, true, false, false, false]) hsel_ hQ_ [(0, true, some 9, none), (1, true, some 10, none), (2, true, some 11, none), (3, true, some 12, none), (6, true, some 15, none), (7, true, some 16, none), (8, true, some 17, none), (9, true, some 18, none), (10, true, some 19, none), (11, true, some 20, none), (12, true, some 21, none), (13, true, some 22, none)] _ _ _ (by kernel_rfl) hst ?_
    repeat (first | (refine wpSeqB_pure (v := ?_) rfl ?_ ?_; rotate_left 1; (focus (intro wq_ hSq_; (try dsimp only at hSq_); go_simp; (try with_reducible rfl); done)); (try simp only [Act.put, List.setIfInBounds_toArray, List.set_cons_zero, List.set_cons_succ])) | (refine wpSeqB_pureG (v := ?_) rfl rfl ?_ ?_; rotate_left 1; (focus (intro wq_ hSq_; (try dsimp only at hSq_); go_simp; (try with_reducible rfl); done)); (try simp only [Act.put, List.setIfInBounds_toArray, List.set_cons_zero, List.set_cons_succ])) | (refine wpSeqB_off rfl rfl ?_; (try simp only [Act.put, List.setIfInBounds_toArray, List.set_cons_zero, List.set_cons_succ])) | (refine wpSeqB_offU rfl ?_; (try simp only [Act.put, List.setIfInBounds_toArray, List.set_cons_zero, List.set_cons_succ])))
    intro s_
    clear s_
    refine wpB_two 4 5 (by kernel_rfl) rfl rfl rfl rfl ?_ ?_
    · intro K hK
      go_simp
      refine (rcloneBB_any _ n cap g.vs wd (HRW.out.below hst) hnn (by omega) (vs_one HD.out)).mono ?_
      rintro e y1 ⟨z1, rfl, ⟨A2, c2, rfl, ho1⟩, b1⟩
      have s1 : Ext w y1 := bt hst b1
      have O1 := Lib.hid (own_lower ho1 (Ext.size hst))
      (try go_wp2_with fail)
      refine hK.out _ _ s1 ?_
      clear hK K b1 ho1
      (try simp only [List.getElem_toArray, List.getElem_cons_succ, List.getElem_cons_zero, Act.put, List.setIfInBounds_toArray, List.set_cons_zero, List.set_cons_succ])
      refine wpB_chunk (f := 0) (L' := #[true, true, true, true, true, true, true, true, true, true, true, true, true, true, true, true, true]) hsel_ hQ_ [(5, false, some 14, none), (14, true, some 23, none), (15, false, some 24, none), (16, false, some 3, none)] _ _ _ (by kernel_rfl) s1 ?_
      repeat (first | (refine wpSeqB_pure (v := ?_) rfl ?_ ?_; rotate_left 1; (focus (intro wq_ hSq_; (try dsimp only at hSq_); go_simp; (try with_reducible rfl); done)); (try simp only [Act.put, List.setIfInBounds_toArray, List.set_cons_zero, List.set_cons_succ])) | (refine wpSeqB_pureG (v := ?_) rfl rfl ?_ ?_; rotate_left 1; (focus (intro wq_ hSq_; (try dsimp only at hSq_); go_simp; (try with_reducible rfl); done)); (try simp only [Act.put, List.setIfInBounds_toArray, List.set_cons_zero, List.set_cons_succ])) | (refine wpSeqB_off rfl rfl ?_; (try simp only [Act.put, List.setIfInBounds_toArray, List.set_cons_zero, List.set_cons_succ])) | (refine wpSeqB_offU rfl ?_; (try simp only [Act.put, List.setIfInBounds_toArray, List.set_cons_zero, List.set_cons_succ])))
      first | refine wpSeqB_call rfl (fun K hK => ?_) | refine wpSeqB_callG rfl rfl (fun K hK => ?_)
      go_simp
      have s2 : Ext w (y1.alloc (.map #[] 0)) := bt s1 (Ext.allocR _ _)
      have hm2 := World.ownsMap_made (H := Value) y1 Try.prog TIN RH
      refine hK.out _ _ s2 ?_
      clear hK K
      (try simp only [List.getElem_toArray, List.getElem_cons_succ, List.getElem_cons_zero, Act.put, List.setIfInBounds_toArray, List.set_cons_zero, List.set_cons_succ])
      repeat (first | (refine wpSeqB_pure (v := ?_) rfl ?_ ?_; rotate_left 1; (focus (intro wq_ hSq_; (try dsimp only at hSq_); go_simp; (try with_reducible rfl); done)); (try simp only [Act.put, List.setIfInBounds_toArray, List.set_cons_zero, List.set_cons_succ])) | (refine wpSeqB_pureG (v := ?_) rfl rfl ?_ ?_; rotate_left 1; (focus (intro wq_ hSq_; (try dsimp only at hSq_); go_simp; (try with_reducible rfl); done)); (try simp only [Act.put, List.setIfInBounds_toArray, List.set_cons_zero, List.set_cons_succ])) | (refine wpSeqB_off rfl rfl ?_; (try simp only [Act.put, List.setIfInBounds_toArray, List.set_cons_zero, List.set_cons_succ])) | (refine wpSeqB_offU rfl ?_; (try simp only [Act.put, List.setIfInBounds_toArray, List.set_cons_zero, List.set_cons_succ])))
      first | refine wpSeqB_call rfl (fun K hK => ?_) | refine wpSeqB_callG rfl rfl (fun K hK => ?_)
      go_simp
      have e3 : (y1.alloc (.map #[] 0)).heap.size = y1.heap.size + 1 := by simp
      have hcl := ClS.start (A2 := A2) (c2 := c2) (d2 := y1.heap.size + 1) (m2 := y1.heap.size) (bt s2 (Ext.allocR (y1.alloc (.map #[] 0)) (.cells #[.slice A2 n c2, .map (some y1.heap.size), .bool down, .int .i64 (left : Int)] TDK))) (by rw [HNL.out]; exact Blk.new_ _ _ e3) (by rw [HNL.out]; exact own_below (own_below O1.out (Ext.allocR _ _)) (Ext.allocR _ _)) (hm2.alloc _) (Ext.size s1) (by have := Ext.size s1; omega) HD.out
      have HCL := Lib.hid hcl
      have s3 := HCL.out.ex
      refine hK.out _ _ s3 ?_
      clear hK K hcl hm2
      (try simp only [List.getElem_toArray, List.getElem_cons_succ, List.getElem_cons_zero, Act.put, List.setIfInBounds_toArray, List.set_cons_zero, List.set_cons_succ])
      first | refine wpSeqB_call rfl (fun K hK => ?_) | refine wpSeqB_callG rfl rfl (fun K hK => ?_)
      go_simp
      refine hK.out _ _ s3 ?_
      clear hK K
      (try simp only [List.getElem_toArray, List.getElem_cons_succ, List.getElem_cons_zero, Act.put, List.setIfInBounds_toArray, List.set_cons_zero, List.set_cons_succ])
      repeat (first | (refine wpSeqB_pure (v := ?_) rfl ?_ ?_; rotate_left 1; (focus (intro wq_ hSq_; (try dsimp only at hSq_); go_simp; (try with_reducible rfl); done)); (try simp only [Act.put, List.setIfInBounds_toArray, List.set_cons_zero, List.set_cons_succ])) | (refine wpSeqB_pureG (v := ?_) rfl rfl ?_ ?_; rotate_left 1; (focus (intro wq_ hSq_; (try dsimp only at hSq_); go_simp; (try with_reducible rfl); done)); (try simp only [Act.put, List.setIfInBounds_toArray, List.set_cons_zero, List.set_cons_succ])) | (refine wpSeqB_off rfl rfl ?_; (try simp only [Act.put, List.setIfInBounds_toArray, List.set_cons_zero, List.set_cons_succ])) | (refine wpSeqB_offU rfl ?_; (try simp only [Act.put, List.setIfInBounds_toArray, List.set_cons_zero, List.set_cons_succ])))
      intro s_
      refine wpB_end (by kernel_rfl) ?_
      clear s_
      go_wp2_with fail
      go_meet
      exact ⟨_, _, _, _, rfl, HCL.out⟩
    · intro K hK
      go_simp
      have s1 : Ext w (wd.alloc (.map #[] 0)) := bt hst (Ext.allocR _ _)
      have hm1 := World.ownsMap_made (H := Value) wd Try.prog TIN RH
      obtain ⟨m2, hm2⟩ : ∃ m2, wd.heap.size = m2 := ⟨_, rfl⟩
      have hm2w : w.heap.size ≤ m2 := by have := Ext.size hst; omega
      rw [hm2] at hm1 ⊢
      obtain ⟨y1, hy1⟩ : ∃ y1, wd.alloc (.map #[] 0) = y1 := ⟨_, rfl⟩
      rw [hy1] at s1 hm1 ⊢
      have HM1 := Lib.hid hm1
      refine hK.out _ _ s1 ?_
      clear hK K hm1 hm2 hy1
      (try simp only [List.getElem_toArray, List.getElem_cons_succ, List.getElem_cons_zero, Act.put, List.setIfInBounds_toArray, List.set_cons_zero, List.set_cons_succ])
      refine wpB_chunk (f := 0) (L' := #[true, true, true, true, true, true, true, true, true, true, true, true, true, true, true, true, true]) hsel_ hQ_ [(4, false, some 13, none), (14, true, some 23, none), (15, false, some 24, none), (16, false, some 3, none)] _ _ _ (by kernel_rfl) s1 ?_
      repeat (first | (refine wpSeqB_pure (v := ?_) rfl ?_ ?_; rotate_left 1; (focus (intro wq_ hSq_; (try dsimp only at hSq_); go_simp; (try with_reducible rfl); done)); (try simp only [Act.put, List.setIfInBounds_toArray, List.set_cons_zero, List.set_cons_succ])) | (refine wpSeqB_pureG (v := ?_) rfl rfl ?_ ?_; rotate_left 1; (focus (intro wq_ hSq_; (try dsimp only at hSq_); go_simp; (try with_reducible rfl); done)); (try simp only [Act.put, List.setIfInBounds_toArray, List.set_cons_zero, List.set_cons_succ])) | (refine wpSeqB_off rfl rfl ?_; (try simp only [Act.put, List.setIfInBounds_toArray, List.set_cons_zero, List.set_cons_succ])) | (refine wpSeqB_offU rfl ?_; (try simp only [Act.put, List.setIfInBounds_toArray, List.set_cons_zero, List.set_cons_succ])))
      first | refine wpSeqB_call rfl (fun K hK => ?_) | refine wpSeqB_callG rfl rfl (fun K hK => ?_)
      go_simp
      refine (rcloneBB_any _ n cap g.vs y1 (HRW.out.below s1) hnn (by omega) (vs_one HD.out)).mono ?_
      rintro e y2 ⟨z1, rfl, ⟨A2, c2, rfl, ho1⟩, b1⟩
      have s2 : Ext w y2 := bt s1 b1
      have O2 := Lib.hid (own_lower ho1 (Ext.size s1))
      have HM2 := Lib.hid (map_chg2 HM1.out (X := fun _ _ => False) (Chg.ext b1) fun _ _ h => h)
      go_wp2_with fail
      refine hK.out _ _ s2 ?_
      clear hK K b1 ho1
      (try simp only [List.getElem_toArray, List.getElem_cons_succ, List.getElem_cons_zero, Act.put, List.setIfInBounds_toArray, List.set_cons_zero, List.set_cons_succ])
      repeat (first | (refine wpSeqB_pure (v := ?_) rfl ?_ ?_; rotate_left 1; (focus (intro wq_ hSq_; (try dsimp only at hSq_); go_simp; (try with_reducible rfl); done)); (try simp only [Act.put, List.setIfInBounds_toArray, List.set_cons_zero, List.set_cons_succ])) | (refine wpSeqB_pureG (v := ?_) rfl rfl ?_ ?_; rotate_left 1; (focus (intro wq_ hSq_; (try dsimp only at hSq_); go_simp; (try with_reducible rfl); done)); (try simp only [Act.put, List.setIfInBounds_toArray, List.set_cons_zero, List.set_cons_succ])) | (refine wpSeqB_off rfl rfl ?_; (try simp only [Act.put, List.setIfInBounds_toArray, List.set_cons_zero, List.set_cons_succ])) | (refine wpSeqB_offU rfl ?_; (try simp only [Act.put, List.setIfInBounds_toArray, List.set_cons_zero, List.set_cons_succ])))
      first | refine wpSeqB_call rfl (fun K hK => ?_) | refine wpSeqB_callG rfl rfl (fun K hK => ?_)
      go_simp
      have hcl := ClS.start (A2 := A2) (c2 := c2) (d2 := y2.heap.size) (m2 := m2) (bt s2 (Ext.allocR y2 (.cells #[.slice A2 n c2, .map (some m2), .bool down, .int .i64 (left : Int)] TDK))) (by rw [HNL.out]; exact Blk.new_ _ _ rfl) (by rw [HNL.out]; exact own_below O2.out (Ext.allocR _ _)) (HM2.out.alloc _) hm2w (Ext.size s2) HD.out
      have HCL := Lib.hid hcl
      have s3 := HCL.out.ex
      refine hK.out _ _ s3 ?_
      clear hK K hcl
      (try simp only [List.getElem_toArray, List.getElem_cons_succ, List.getElem_cons_zero, Act.put, List.setIfInBounds_toArray, List.set_cons_zero, List.set_cons_succ])
      first | refine wpSeqB_call rfl (fun K hK => ?_) | refine wpSeqB_callG rfl rfl (fun K hK => ?_)
      go_simp
      refine hK.out _ _ s3 ?_
      clear hK K
      (try simp only [List.getElem_toArray, List.getElem_cons_succ, List.getElem_cons_zero, Act.put, List.setIfInBounds_toArray, List.set_cons_zero, List.set_cons_succ])
      repeat (first | (refine wpSeqB_pure (v := ?_) rfl ?_ ?_; rotate_left 1; (focus (intro wq_ hSq_; (try dsimp only at hSq_); go_simp; (try with_reducible rfl); done)); (try simp only [Act.put, List.setIfInBounds_toArray, List.set_cons_zero, List.set_cons_succ])) | (refine wpSeqB_pureG (v := ?_) rfl rfl ?_ ?_; rotate_left 1; (focus (intro wq_ hSq_; (try dsimp only at hSq_); go_simp; (try with_reducible rfl); done)); (try simp only [Act.put, List.setIfInBounds_toArray, List.set_cons_zero, List.set_cons_succ])) | (refine wpSeqB_off rfl rfl ?_; (try simp only [Act.put, List.setIfInBounds_toArray, List.set_cons_zero, List.set_cons_succ])) | (refine wpSeqB_offU rfl ?_; (try simp only [Act.put, List.setIfInBounds_toArray, List.set_cons_zero, List.set_cons_succ])))
      intro s_
      refine wpB_end (by kernel_rfl) ?_
      clear s_
      go_wp2_with fail
      go_meet
      exact ⟨_, _, _, _, rfl, HCL.out⟩
  case rest =>
    obtain ⟨d2, m2, A2, c2, rfl, hcl⟩ := hcut
    have HCL := Lib.hid hcl
    have kd := kk _ hcl.ex
    have hwc := hcl.mp.lt
    obtain ⟨r, hr⟩ : ∃ r, wc.heap.size = r := ⟨_, rfl⟩
    have hrw : w.heap.size ≤ r := by rw [← hr]; exact Ext.size hcl.ex
    have hmr : m2 < r := by rw [← hr]; exact hwc
    have hgm : g.m < w.heap.size := HD.out.mp.lt
    have hm2w := hcl.m2w
    have hszD : Maps.size g.D ≤ 4096 := by have := HD.out.size_le; have := HD.out.few; omega
    have hMP := (HD.out.ext hcl.ex).mp
    clear hcl kk hst hwc
    go_wp2_with (at_range; refine wpList_range_own _ rfl _ TLM rfl TIN TBB lawL Try.underlying67 _ g.m _ _ rfl hMP ?_; intro w0 hrg0 hg0 hs0)
    go_frame
    rw [hr] at hrg0 hs0 ⊢
    have x0 : Ext wc w0 := ⟨hg0.os, hg0.tape, hg0.output, hg0.size, fun b hb => hg0.block b hb (by simp)⟩
    have HC0 := Lib.hid (HCL.out.ext x0)
    have HRG := Lib.hid hrg0
    clear x0 hg0 hrg0 hMP kd HCL hr hs0
    go_loopw [4] (fun _ wr => ∃ (lf : Lit → Bool) (cnt : Nat) (Dout : DataW Value) (Lv2 : Nat → Value), wr.ranges Try.prog TIN RH g.m r (Maps.size g.D) g.D lf cnt ∧ cnt ≤ Maps.size g.D ∧ ClS w wr d2 m2 A2 c2 g cur bl down left lf cnt Dout Lv2)
      (fun _ wr => wr.rangeLeft g.m r)
    case atStart => exact ⟨_, _, _, _, HRG.out, Nat.le_refl _, HC0.out⟩
    case round =>
      clear HRG HC0
      obtain ⟨lf, cnt, Dout, Lv2, hrg, hcs, hcl⟩ := hrel
      have HCL := Lib.hid hcl
      have HRG := Lib.hid hrg
      clear hcl
      go_wp2_with (at_next; refine wpList_next_ranges _ rfl _ rfl TIN lawL RH (fun x : Int => Value.int .i64 x) (fun c : Value => c) (fun key kl hkey => by obtain ⟨x, rfl, _⟩ := Maps.keyOf_int_inv Try.underlying3 hkey; exact ⟨x, rfl⟩) (fun v y _ => ⟨v, rfl⟩) g.m r _ _ _ _ rfl hrg ?_ ?_)
      · intro hc0 hl0
        have hR := Lib.hid (HCL.out.done (HD.out.ext HCL.out.ex) hl0)
        have hrowge := Lib.hid (fun b (hb : (Value.slice A2 cur.length c2).ownBlock = some b) => own_geE HCL.out.row b hb)
        have hlvge := Lib.hid (fun k (hk : k < cur.length) (hlo : g.lo k = true) b (hb : (Lv2 k).ownBlock = some b) => own_geE (HCL.out.yes k hk hlo (hl0 _)).2.2 b hb)
        have X9 := Lib.hid (And.intro HCL.out.ex (And.intro HCL.out.m2w HCL.out.d2w))
        clear HCL HRG hrg
        go_wp2
        go_returns
        exact ⟨_, rfl, ⟨d2, _, rfl, hR.out, ⟨rfl, rfl, rfl⟩, fun b hb => by
          rcases hb with hb | hb | hb | ⟨k, hk, hlo, hb⟩
          · rw [hb]; exact X9.out.2.2
          · rw [hb]; exact X9.out.2.1
          · exact hrowge.out b hb
          · exact hlvge.out k hk hlo b hb⟩, X9.out.1⟩
      · intro x c kl yd ps w5 cnt1 hkey hlk hRy hat hrg1 hlt hg1 hs1 hen
        obtain ⟨x', hx', rfl, _⟩ := Maps.keyOf_int_inv Try.underlying3 hkey
        injection hx' with _ hx'
        subst hx'
        have hyd : yd = .held c := by
          unfold RH at hRy
          injection hRy with hRy
          injection hRy with e1 _
          exact e1.symm
        subst hyd
        have hhas : Maps.has g.D (.int .i64 x) = true := has_true_of_atKey hat
        obtain ⟨k, hk, hkx⟩ := HD.out.keys _ hhas
        injection hkx with _ hkx
        subst hkx
        have hhas : Maps.has g.D (kI k) = true := hhas
        have hlo : g.lo k = true := by
          cases hh : g.lo k with
          | true => rfl
          | false =>
            have := HD.out.no k hk hh
            rw [hhas] at this
            cases this
        have hdi5 := HD.out.ext HCL.out.ex
        obtain ⟨y1, y2, y3, y4⟩ := hdi5.yes k hk hlo
        have hcv : c = g.Lv k := by
          have h1 := hat (.held nlB)
          have h2 := y2 (.held nlB)
          rw [show kI k = .int .i64 (k : Int) from rfl, h1] at h2
          injection h2
        obtain ⟨nb, hnb⟩ : ∃ nb, (bl.getD k []).length = nb := ⟨_, rfl⟩
        rw [hnb] at y3
        obtain ⟨Ak, ck, hLv, hrk⟩ := own_rv y3
        rw [hLv] at hcv
        subst hcv
        have hnb1 : 1 ≤ nb := by rw [← hnb]; exact List.length_pos_iff.2 (hdi5.ne k hk)
        have hnb2 : nb ≤ 1000000 := by rw [← hnb]; exact HFW.out k
        have hus := us_one hdi5 hk hlo
        have hri : (∀ cs T, wr.heap[r]? ≠ some (.cells cs T (0, 0))) ∧ ∀ es c, wr.heap[r]? ≠ some (.map es c) := by
          obtain ⟨_, _, _, _, _, _, _, _, _, hri, _⟩ := HRG.out
          exact ⟨fun cs T e => (by rw [hri] at e; cases e), fun es c e => (by rw [hri] at e; cases e)⟩
        have hc5 : Chg (fun b o => b = r ∧ wr.heap[r]? = some o) wr w5 := Chg.grow hg1 fun b o e hb => by
          injection e with e
          subst e
          exact ⟨rfl, hb⟩
        have hcl5 := HCL.out.turn hg1 hri.1 hri.2 hrw
        have hrk5 : Rv w5 1 Ak nb ck (g.us k) := own_rvv (hLv ▸ hc5.own y3 fun b cs _ hX => hri.1 _ _ hX.2)
        have hkn : k < n := by rw [← HNL.out]; exact hk
        have H5 := Lib.hid (And.intro hcl5 (And.intro hrg1 hrk5))
        have HK := Lib.hid (And.intro hk (And.intro hlo (And.intro hhas (And.intro hlk (And.intro hnb hus)))))
        have HLT := Lib.hid (And.intro hlt hs1)
        clear hat hdi5 y1 y2 y3 y4 hLv hrk hri hc5 hcl5 hrg1 hrk5 hk hlo hhas hlk hus hkey hRy hg1 hnb hrg
        go_upto_region 7 with fail
        have hst : Ext w5 w5.drew := Ext.drew _
        have kx := (H5.out.1.dk.below hst).cells
        simp only [cellsAre, Nat.zero_add, Nat.reduceAdd, and_true] at kx
        have s0 := kx.2.1
        refine wp_region_brn (S := (fun W => W.cell? ⟨d2, 1, none⟩ = some (.map (some m2)))) (by kernel_rfl) (by kernel_rfl) (fun _ _ _ _ _ => ⟨fun h => h, fun h => h⟩) ?_
        intro hsel_ hQ_
        obtain ⟨wd, hwd⟩ : ∃ wd, w5.drew = wd := ⟨_, rfl⟩
        rw [hwd] at hst s0 ⊢
        clear hwd kx
        refine wpB_chunk (f := 0) (L' := #[true, true, true, true, true, true, true, true]) hsel_ hQ_ [(0, true, some 35, none), (1, true, some 36, none), (2, true, some 37, none), (3, true, some 38, none), (4, true, some 39, none), (5, true, some 40, none), (6, false, some 41, none), (7, false, none, none)] _ _ _ (by kernel_rfl) s0 ?_
        repeat (first | (refine wpSeqB_pure (v := ?_) rfl ?_ ?_; rotate_left 1; (focus (intro wq_ hSq_; (try dsimp only at hSq_); go_simp; (try with_reducible rfl); done)); (try simp only [Act.put, List.setIfInBounds_toArray, List.set_cons_zero, List.set_cons_succ])) | (refine wpSeqB_pureG (v := ?_) rfl rfl ?_ ?_; rotate_left 1; (focus (intro wq_ hSq_; (try dsimp only at hSq_); go_simp; (try with_reducible rfl); done)); (try simp only [Act.put, List.setIfInBounds_toArray, List.set_cons_zero, List.set_cons_succ])) | (refine wpSeqB_off rfl rfl ?_; (try simp only [Act.put, List.setIfInBounds_toArray, List.set_cons_zero, List.set_cons_succ])) | (refine wpSeqB_offU rfl ?_; (try simp only [Act.put, List.setIfInBounds_toArray, List.set_cons_zero, List.set_cons_succ])))
        first | refine wpSeqB_call rfl (fun K hK => ?_) | refine wpSeqB_callG rfl rfl (fun K hK => ?_)
        go_simp
        refine (rcloneBB_any Ak nb ck (g.us k) wd (H5.out.2.2.below hst) hnb1 hnb2 HK.out.2.2.2.2.2).mono ?_
        rintro e y1 ⟨z1, rfl, ⟨A6, c6, rfl, ho6⟩, b6⟩
        obtain ⟨w9, hrun, htn, hcl9⟩ := (H5.out.1.ext hst).put b6 HK.out.1 (by omega) HK.out.2.1 HK.out.2.2.1 HK.out.2.2.2.1 ho6 HK.out.2.2.2.2.1 hnb1 (by omega) HLT.out.1 hcs
        have hg9 := htn.grown
        have hrg9 := (H5.out.2.1.kept (row := none) (w' := y1) ⟨(bt hst b6).os, (bt hst b6).tape, (bt hst b6).output, (bt hst b6).size, fun b hb _ => (bt hst b6).block b hb⟩ (by simp) (by simp)).kept hg9 (fun e => by have := Option.some.inj e; omega) (fun e => by have := Option.some.inj e; omega)
        have s1 := ext_cell b6 s0
        have kx9 := hcl9.dk.cells
        simp only [cellsAre, Nat.zero_add, Nat.reduceAdd, and_true] at kx9
        have s9 := kx9.2.1
        have H9 := Lib.hid (And.intro hcl9 hrg9)
        clear hcl9 hrg9 htn hg9 ho6 kx9
        go_wp2_with fail
        refine hK.out _ _ s1 ?_
        clear hK K b6
        (try simp only [List.getElem_toArray, List.getElem_cons_succ, List.getElem_cons_zero, Act.put, List.setIfInBounds_toArray, List.set_cons_zero, List.set_cons_succ])
        first | refine wpSeqB_call rfl (fun K hK => ?_) | refine wpSeqB_callG rfl rfl (fun K hK => ?_)
        go_simp
        refine hK.out _ _ s9 ?_
        clear hK K
        (try simp only [List.getElem_toArray, List.getElem_cons_succ, List.getElem_cons_zero, Act.put, List.setIfInBounds_toArray, List.set_cons_zero, List.set_cons_succ])
        intro s_
        refine wpB_end (by kernel_rfl) ?_
        clear s_
        go_wp2
        go_roundw
        case rel => exact ⟨_, cnt1, _, _, H9.out.2, by have := HLT.out.1; omega, H9.out.1⟩
        case measure => rw [H9.out.2.left_eq, HRG.out.left_eq]; exact HLT.out.1
/-- A disk's clone. -/
theorem rdclone_ok {F : Nat → Prop} (hw : DW F w d bl down left) (hn : 1 ≤ bl.length) (hfew : ∀ k, (bl.getD k []).length ≤ 1000000) :
    Calls Try.prog 34 #[.pointer (some ⟨d, 0, none⟩)] w (Ret (fun z w' => ∃ d2, z = .pointer (some ⟨d2, 0, none⟩) ∧ DW (fun b => w.heap.size ≤ b) w' d2 bl down left) w) := by
  obtain ⟨g, h, hlo, hfp⟩ := hw
  have hl : (bl.map fun l => l.getLastD z64).length = bl.length := List.length_map _
  refine (rdclone_di h (fun e => (by rw [e] at hl; have h0 : 0 = bl.length := hl; omega)) hfew).mono ?_
  rintro e w' ⟨z, rfl, ⟨d2, g2, rfl, h2, ⟨hg2, _, _⟩, hf2⟩, hb⟩
  exact ⟨_, rfl, ⟨d2, rfl, g2, h2, fun k hk => by rw [hg2]; exact hlo k hk, fun b hb => hf2 b (by rw [hl]; exact hb)⟩, hb⟩
end Go.Proofs.Tb
