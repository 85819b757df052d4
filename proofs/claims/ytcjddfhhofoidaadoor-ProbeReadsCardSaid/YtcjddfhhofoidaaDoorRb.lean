/- Contract of few: a case with copies of its first faults and tests. -/
import Derived.Test.YtcjddfhhofoidaaDoorRa
import Derived.Deep.Upon
set_option linter.unusedVariables false
set_option linter.unusedSimpArgs false
namespace Go.Proofs.Tb
open Go.RowKit
attribute [local go_sem] cell_set_same

abbrev TCA : TypeId := 25
abbrev TFS : TypeId := 22
abbrev TTS : TypeId := 23
theorem fa_info : (Tryd.prog.info? TFA).map (fun i => (i.zero, i.size, i.bytes)) = some (some (.agg #[.int .i64 0]), 1, 8) := by kernel_rfl
theorem te_info : (Tryd.prog.info? TTE).map (fun i => (i.zero, i.size, i.bytes)) = some (some (.agg #[.int .i64 0, .slice none 0 0]), 2, 32) := by kernel_rfl
/-- The first faults and tests. -/
def cutN (n lim a : Nat) : Nat := if n ≤ lim then min n a else n
def fewF (ws : List Int) (a : Nat) : List Int := (ws.take (cutN ws.length 10 a)).take 11
def cutT (t : Tt) : Tt := (t.1, t.2.take 12)
def fewT (ts : List Tt) (b : Nat) : List Tt := ((ts.take (cutN ts.length 16 b)).take 17).map cutT
/-- append of a slice, maybe nil, to a row that the call owns. -/
theorem run_appA {P : Program} {w : World} (TS T : TypeId) (z : Value) (k bytes : Nat) (ty : TypeId) (hinf : (P.info? T).map (fun i => (i.zero, i.size, i.bytes)) = some (some z, k, bytes)) (hund : P.underlying TS = some (.slice T)) (hzs : z.cells.size = k) (h0 : 0 < k) (hby : bytes ≤ 1000)
    (base : Nat) (v : Value) (n : Nat) (xs : List Value) (hown : w.ownsRow base T k v n xs) (A : Option Addr) (m c : Nat) (news : List Value) (hl : news.length = m * k) (hA : 0 < m → ∃ ad, A = some ad) (hnews : ∀ ad, A = some ad → ∀ j u, news[j]? = some u → w.cell? (ad.add j) = some u)
    (h1 : ∀ u ∈ news, u.oneCell' = true) (hn : n ≤ 1000000) (hm : m ≤ 1000000) (hbase : base ≤ w.heap.size) :
    ∃ v' w', (Builtin.append_ #[TS, TS] ty #[v, .slice A m c]).run P w = .ok v' w' ∧ w'.ownsRow base T k v' (n + m) (xs ++ news) ∧ w.grownBy w' v.ownBlock ∧ Below base w w' := by
  obtain ⟨i0, hi, hz0, hz1, hz2⟩ := info_parts hinf
  cases A with
  | some ad =>
    have hbb : (n + m) * bytes ≤ 2000000 * 1000 := Nat.mul_le_mul (by omega) hby
    obtain ⟨v', w', h2, h3, h4, _⟩ := run_append_own (P := P) w base TS ty T i0 z k bytes hund hi hz0 hz1 hz2 hzs h0 v n xs hown ad m c news hl (hnews ad rfl) h1 (by unfold maxLen; omega) (by omega) hbase
    exact ⟨v', w', h2, h3, h4, (Below.refl _ _).grown h4 hbase (own_geE hown)⟩
  | none =>
    have hm0 : m = 0 := by
      rcases Nat.eq_zero_or_pos m with h | h
      · exact h
      · obtain ⟨ad, e⟩ := hA h; cases e
    subst hm0
    have hnil : news = [] := List.eq_nil_of_length_eq_zero (by rw [hl, Nat.zero_mul])
    subst hnil
    have hrow : ∃ b cap, v = .slice b n cap ∧ n ≤ cap := by
      rcases hown.2 with ⟨e, hn0⟩ | ⟨g, cap, cur, e, _, _, hle, _⟩
      · exact ⟨none, 0, by rw [e, hn0], by omega⟩
      · exact ⟨_, cap, e, hle⟩
    obtain ⟨b, cap, rfl, hle⟩ := hrow
    refine ⟨_, w, run_append_nothing (P := P) w TS TS ty T i0 hund hi b n cap hle (.slice none 0 c) (Src.ofNil w hund c), by rw [Nat.add_zero, List.append_nil]; exact hown, ⟨rfl, rfl, rfl, Nat.le_refl _, fun _ _ _ => rfl⟩, Below.refl _ _⟩
/-- A row of integers, with elements of type T. -/
def OwT (T : TypeId) (base : Nat) (w : World) (v : Value) (xs : List Int) : Prop := w.ownsRow base T 1 v xs.length (ic xs)
theorem OwT.il {T : TypeId} {base : Nat} {w : World} {v : Value} {xs : List Int} (h : OwT T base w v xs) : ∃ A n c, v = .slice A n c ∧ Il w A n c xs := by
  obtain ⟨hlen, h2⟩ := h
  rcases h2 with ⟨rfl, hn⟩ | ⟨g, cap, cur, rfl, hb, hh, hn, hm, hs, ht⟩
  · exact ⟨none, 0, 0, rfl, ⟨hn, Nat.le_refl _, by omega, fun h => absurd h (by omega)⟩⟩
  · refine ⟨_, _, _, rfl, ⟨rfl, hn, by simpa [maxLen] using hm, fun h0 => ⟨g, 0, rfl, fun j hj => ?_⟩⟩⟩
    rw [Nat.zero_add, cell_of_row w g j cur T (0, 0) hh]
    have h1 : cur.toList[j]? = (ic xs)[j]? := by rw [← ht, List.getElem?_take, if_pos (by omega)]
    have h2 : (ic xs)[j]? = some (.int .i64 (xs.getD j 0)) := by simp [ic, List.getD, hj]
    rw [← h2, ← h1]
    simp
theorem OwT.below {T : TypeId} {base : Nat} {w w' : World} {v : Value} {xs : List Int} (h : OwT T base w v xs) (hb : Below w.heap.size w w') : OwT T base w' v xs := own_below h hb
theorem OwT.far {T T' : TypeId} {base g : Nat} {w : World} {v : Value} {xs : List Int} {cs : Array Value} (h : OwT T base w v xs) (hb : Blk w g T' cs) (hT : T ≠ T') (j : Nat) (u : Value) : OwT T base (w.setCell ⟨g, j, none⟩ u) v xs := by
  refine ⟨h.1, ?_⟩
  rcases h.2 with h | ⟨q, cap, cur, hv, h1, h2, h3⟩
  · exact Or.inl h
  · refine Or.inr ⟨q, cap, cur, hv, h1, (Below.heap_setCell w _ u q ?_).trans h2, h3⟩
    rintro rfl
    unfold Blk at hb
    rw [h2] at hb
    injection hb with hb
    injection hb with _ e _
    exact hT e
theorem Blk.grown {w w' : World} {g : Nat} {T : TypeId} {cs : Array Value} {row : Option Nat} (h : Blk w g T cs) (hg : w.grownBy w' row) (hr : ∀ q, row = some q → ∀ cs fr, w.heap[q]? ≠ some (.cells cs T fr)) : Blk w' g T cs :=
  (hg.block g (Blk.lt h) (fun e => hr g e.symm _ _ h)).trans h
theorem OwT.grown {T : TypeId} {base : Nat} {w w' : World} {v : Value} {xs : List Int} {row : Option Nat} (h : OwT T base w v xs) (hg : w.grownBy w' row) (hr : ∀ q, row = some q → ∀ cs fr, w.heap[q]? ≠ some (.cells cs T fr)) : OwT T base w' v xs := by
  refine ⟨h.1, ?_⟩
  rcases h.2 with h | ⟨q, cap, cur, hv, h1, h2, h3⟩
  · exact Or.inl h
  · exact Or.inr ⟨q, cap, cur, hv, h1, (hg.block q (block_lt h2) (fun e => hr q e.symm _ _ h2)).trans h2, h3⟩
theorem OwP.far {T T' : TypeId} {base g : Nat} {w : World} {v : Value} {bs : List Tt} {cs : Array Value} (h : OwP T base w v bs) (hb : Blk w g T' cs) (hT : T ≠ T') (hI : TIN ≠ T') (j : Nat) (u : Value) : OwP T base (w.setCell ⟨g, j, none⟩ u) v bs := by
  obtain ⟨d, h1, h2⟩ := h
  refine ⟨d, ?_, h2.imp fun _ _ hs => hs.held (hb.heldS.set_ j u) hI⟩
  refine ⟨h1.1, ?_⟩
  rcases h1.2 with h | ⟨q, cap, cur, hv, h1, h2, h3⟩
  · exact Or.inl h
  · refine Or.inr ⟨q, cap, cur, hv, h1, (Below.heap_setCell w _ u q ?_).trans h2, h3⟩
    rintro rfl
    unfold Blk at hb
    rw [h2] at hb
    injection hb with hb
    injection hb with _ e _
    exact hT e
/-- The first elements of a slice of integers. -/
theorem Il.take {w : World} {A : Option Addr} {n c : Nat} {xs : List Int} (h : Il w A n c xs) {k : Nat} (hk : k ≤ n) : Il w A k c (xs.take k) := by
  have hl := h.len
  have hle := h.le
  refine ⟨by simp; omega, by omega, h.cap, fun h0 => ?_⟩
  obtain ⟨b, o, hA, hc⟩ := h.at_ (by omega)
  refine ⟨b, o, hA, fun j hj => ?_⟩
  rw [hc j (by omega)]
  simp [List.getD, hj]
theorem Il.news {w : World} {A : Option Addr} {n c : Nat} {xs : List Int} (h : Il w A n c xs) : (ic xs).length = n * 1 ∧ (0 < n → ∃ ad, A = some ad) ∧ ∀ ad, A = some ad → ∀ j u, (ic xs)[j]? = some u → w.cell? (ad.add j) = some u := by
  refine ⟨by simp [ic, h.len], fun h0 => ?_, fun ad e j u hj => ?_⟩
  · obtain ⟨b, o, hA, _⟩ := h.at_ h0; exact ⟨_, hA⟩
  · have hjl : j < xs.length := by
      rcases Nat.lt_or_ge j xs.length with h1 | h1
      · exact h1
      · rw [List.getElem?_eq_none (by simpa [ic] using h1)] at hj; cases hj
    obtain ⟨b, o, hA, _⟩ := h.at_ (by rw [← h.len]; omega)
    rw [e] at hA
    injection hA with hA
    subst hA
    subst e
    exact h.cells j u hj
theorem OwT.mk {T : TypeId} {base : Nat} {w : World} {v : Value} {xs : List Int} {n : Nat} (hn : xs.length = n) (h : w.ownsRow base T 1 v n (ic xs)) : OwT T base w v xs := by subst hn; exact h
set_option maxHeartbeats 6400000 in
set_option maxRecDepth 100000 in
theorem few_any (A A' : Option Addr) (n c m d : Nat) (ws : List Int) (ts : List Tt) (a b : Nat) (ha : a ≤ 16) (hb : b ≤ 16) (w : World) (h : Il w A n c ws) (h' : Ts w A' m d ts) :
    Calls Tryd.prog 15 #[.agg #[.slice A n c, .slice A' m d], .int .i64 (a : Int), .int .i64 (b : Int)] w
      (Ret (fun v w' => ∃ v1 v2, v = .agg #[v1, v2] ∧ OwT TFA w.heap.size w' v1 (fewF ws a) ∧ OwP TTE w.heap.size w' v2 (fewT ts b)) w) := by
  have hn := h.le
  have hc := h.cap
  have hm := h'.le
  have hd := h'.cap
  have HL := Lib.hid h.len
  have HL' := Lib.hid h'.len
  have H := Lib.hid h
  have H' := Lib.hid h'
  clear h h'
  go_enter Tryd.func15, Tryd.ntmps15
  go_upto_region 2 with fail
  refine wp_world (fun W0 => Blk W0 w.heap.size TCA #[.slice A n c, .slice A' m d] ∧ Blk W0 (w.heap.size + 1) TCA #[.slice none 0 0, .slice none 0 0] ∧ Blk W0 (w.heap.size + 1 + 1) TCA #[.slice none 0 0, .slice none 0 0] ∧ Below w.heap.size w W0) (by exact ⟨((Blk.new_ _ _ rfl).alloc _).alloc _, (Blk.new_ _ _ (by simp)).alloc _, Blk.new_ _ _ (by simp), by go_grown⟩) ?_
  rintro W0 ⟨bX, bR, bY, hbw⟩
  obtain ⟨g, hg⟩ : ∃ g, w.heap.size = g := ⟨_, rfl⟩
  rw [hg] at bX bR bY hbw ⊢
  have cX := bX.cells
  have fX := Blk.free bX 0
  simp only [cellsAre, Nat.zero_add, Nat.reduceAdd, and_true] at cX
  have HG := Lib.hid hg
  have HB := Lib.hid (And.intro bX (And.intro bR (And.intro bY hbw)))
  clear bX bR bY hbw hg
  go_upto_if 14 with fail
  go_cut [] (fun wx => Blk wx g TCA #[.slice A (cutN n 10 a) c, .slice A' m d] ∧ Blk wx (g + 1) TCA #[.slice none 0 0, .slice none 0 0] ∧ Blk wx (g + 1 + 1) TCA #[.slice none 0 0, .slice none 0 0] ∧ Below g w wx)
  case first =>
    obtain ⟨b1, b2, b3, b4⟩ := HB.out
    by_cases h10 : n ≤ 10
    · have g1 : decide ((n : Int) ≤ 10) = true := by simp; omega
      have hcut : (min (n : Int) (a : Int)).toNat = cutN n 10 a := by unfold cutN; rw [if_pos h10]; omega
      go_wp2
      go_meet
      exact ⟨b1.set_ 0 _, b2.far (by simp) _, b3.far (by simp; omega) _, b4.setCell (Nat.le_refl _) _⟩
    · have g1 : decide ((n : Int) ≤ 10) = false := by simp; omega
      have hcut : cutN n 10 a = n := by unfold cutN; rw [if_neg h10]
      go_wp2
      go_meet
      rw [hcut]
      exact ⟨b1, b2, b3, b4⟩
  case rest =>
    clear HB cX fX
    obtain ⟨bX, bR, bY, hbw⟩ := hcut
    obtain ⟨p, hp⟩ : ∃ p, cutN n 10 a = p := ⟨_, rfl⟩
    rw [hp] at bX
    have HP := Lib.hid hp
    have cX := bX.cells
    have fX := Blk.free bX 1
    simp only [cellsAre, Nat.zero_add, Nat.reduceAdd, and_true] at cX
    have HB := Lib.hid (And.intro bX (And.intro bR (And.intro bY hbw)))
    clear bX bR bY hbw hp
    go_upto_if 27 with fail
    go_cut [] (fun wx => Blk wx g TCA #[.slice A p c, .slice A' (cutN m 16 b) d] ∧ Blk wx (g + 1) TCA #[.slice none 0 0, .slice none 0 0] ∧ Blk wx (g + 1 + 1) TCA #[.slice none 0 0, .slice none 0 0] ∧ Below g w wx)
    case first =>
      obtain ⟨b1, b2, b3, b4⟩ := HB.out
      by_cases h10 : m ≤ 16
      · have g1 : decide ((m : Int) ≤ 16) = true := by simp; omega
        have hcut : (min (m : Int) (b : Int)).toNat = cutN m 16 b := by unfold cutN; rw [if_pos h10]; omega
        go_wp2
        go_meet
        exact ⟨b1.set_ 1 _, b2.far (by simp) _, b3.far (by simp; omega) _, b4.setCell (Nat.le_refl _) _⟩
      · have g1 : decide ((m : Int) ≤ 16) = false := by simp; omega
        have hcut : cutN m 16 b = m := by unfold cutN; rw [if_neg h10]
        go_wp2
        go_meet
        rw [hcut]
        exact ⟨b1, b2, b3, b4⟩
    case rest =>
      clear HB cX fX
      obtain ⟨bX, bR, bY, hbw⟩ := hcut
      obtain ⟨q, hq⟩ : ∃ q, cutN m 16 b = q := ⟨_, rfl⟩
      rw [hq] at bX
      have HQ := Lib.hid hq
      go_upto_region 6 with fail
      have kX := fun w' (hh : Ext wc w') => (bX.below hh).cells
      have kY := fun w' (hh : Ext wc w') => (bY.below hh).cells
      simp only [cellsAre, Nat.zero_add, Nat.reduceAdd, and_true] at kX kY
      have HB := Lib.hid (And.intro bX (And.intro bR (And.intro bY hbw)))
      have hst : Ext wc wc.drew := Ext.drew _
      have hpc : p ≤ c := by have := HP.out; unfold cutN at this; split at this <;> omega
      obtain ⟨p', hp'⟩ : ∃ p' : Nat, min p 11 = p' := ⟨_, rfl⟩
      have hmn : min (p : Int) 11 = (p' : Int) := by omega
      have hpc' : p' ≤ c := by omega
      have hp11 : p' ≤ 11 := by omega
      have HP' := Lib.hid hp'
      clear bX bR bY hbw hq hp'
      refine wp_region_adv 9 [] [(0, true, some 37, none), (1, true, some 38, none), (2, true, some 39, none), (3, true, some 40, none), (4, true, some 41, none), (5, true, some 42, none), (6, true, some 43, none), (7, true, some 44, none), (8, true, some 45, none)] (by kernel_rfl) (by kernel_rfl) (by kernel_rfl) (by intro it hit; (repeat (rcases List.mem_cons.1 hit with rfl | hit; (focus (intro o ho ev w; injection ho with ho; subst ho; kernel_rfl)))); cases hit) (fun _ _ _ _ _ => ⟨fun h => h, fun h => h⟩) hst ?_
      repeat (first | (refine wpSeq_pure (v := ?_) rfl ?_ ?_; rotate_left 1; (focus (intro wq_ hSq_; (try dsimp only at hSq_); go_simp; (try with_reducible rfl); done)); (try simp only [Act.put, List.setIfInBounds_toArray, List.set_cons_zero, List.set_cons_succ])) | (refine wpSeq_pureG (v := ?_) rfl rfl ?_ ?_; rotate_left 1; (focus (intro wq_ hSq_; (try dsimp only at hSq_); go_simp; (try with_reducible rfl); done)); (try simp only [Act.put, List.setIfInBounds_toArray, List.set_cons_zero, List.set_cons_succ])) | (refine wpSeq_off rfl rfl ?_; (try simp only [Act.put, List.setIfInBounds_toArray, List.set_cons_zero, List.set_cons_succ])))
      intro wz gz sz_
      (try simp only [endJ, List.drop_succ_cons, List.drop_zero])
      have hgs : g ≤ wc.heap.size := by have h1 := HG.out; have h2 := HB.out.2.2.2.size; omega
      have hBz : Below g w wz := HB.out.2.2.2.trans (Below.mono sz_ hgs)
      have hgz : g ≤ wz.heap.size := by have := HG.out; have := hBz.size; omega
      have hws : Il wz A p' c (ws.take p') := (H.out.below (by rw [HG.out]; exact hBz)).take (by have h1 := HP.out; have h2 := HP'.out; unfold cutN at h1; split at h1 <;> omega)
      have hff : ws.take p' = fewF ws a := by unfold fewF; rw [List.take_take, HL.out, HP.out, Nat.min_comm, HP'.out]
      rw [hff] at hws
      obtain ⟨hn1, hn2, hn3⟩ := hws.news
      obtain ⟨v1, w1, hrun, hrow, hgr, hbel⟩ := run_appA (P := Tryd.prog) TFS TFA _ 1 8 TFS fa_info Tryd.underlying22 rfl (by omega) (by omega) g (.slice none 0 0) 0 [] ⟨rfl, Or.inl ⟨rfl, rfl⟩⟩ A p' c (ic (fewF ws a)) hn1 hn2 hn3 (ic_one _) (by omega) (by omega) hgz
      have hx1 : Ext wz w1 := ⟨hgr.os, hgr.tape, hgr.output, hgr.size, fun i hi => hgr.block i hi (by simp [Value.ownBlock])⟩
      rw [Nat.zero_add, List.nil_append] at hrow
      have how : OwT TFA g w1 v1 (fewF ws a) := OwT.mk hws.len hrow
      obtain ⟨A1, n1, c1, hv1, _⟩ := how.il
      subst hv1
      have hx2 := bt sz_ hx1
      have bX := HB.out.1.below hx2
      have bR := HB.out.2.1.below hx2
      have bY := HB.out.2.2.1.below hx2
      have cY := bY.cells
      have fY := Blk.free bY 0
      simp only [cellsAre, Nat.zero_add, Nat.reduceAdd, and_true] at cY
      have HB1 := Lib.hid (And.intro bX (And.intro bR (And.intro bY (And.intro how (HB.out.2.2.2.trans (Below.mono hx2 hgs))))))
      clear hst kX kY gz sz_ hBz hws hff hn1 hn2 hn3 hrow hgr hbel hx1 hx2 how bX bR bY
      go_wp2_with (at_builtin; refine Go.Lib.wpList_append_run _ rfl _ _ _ _ rfl (.slice none 0 0) (.slice A p' c) rfl rfl _ _ hrun ?_)
      have h0 : Blk (w1.setCell ⟨g + 1 + 1, 0, none⟩ (.slice A1 n1 c1)) g TCA #[.slice A p c, .slice A' q d] ∧ Blk (w1.setCell ⟨g + 1 + 1, 0, none⟩ (.slice A1 n1 c1)) (g + 1) TCA #[.slice none 0 0, .slice none 0 0] ∧ Blk (w1.setCell ⟨g + 1 + 1, 0, none⟩ (.slice A1 n1 c1)) (g + 1 + 1) TCA #[.slice A1 n1 c1, .slice none 0 0] ∧
          OwT TFA g (w1.setCell ⟨g + 1 + 1, 0, none⟩ (.slice A1 n1 c1)) (.slice A1 n1 c1) (fewF ws a) ∧ OwP TTE g (w1.setCell ⟨g + 1 + 1, 0, none⟩ (.slice A1 n1 c1)) (.slice none 0 0) ((fewT ts b).take 0) ∧ Below g w (w1.setCell ⟨g + 1 + 1, 0, none⟩ (.slice A1 n1 c1)) := by
        obtain ⟨b1, b2, b3, b4, b5⟩ := HB1.out
        exact ⟨b1.far (by simp; omega) _, b2.far (by simp) _, b3.set_ 0 _, b4.far b3 (by decide) 0 _, OwP.nil _ _ _, b5.setCell (by simp; omega) _⟩
      have H0 := Lib.hid h0
      clear h0 cY fY HB1 hrun HB
      go_loopw [8] (fun i wr => ∃ (k : Nat) (A2 : Option Addr) (n2 c2 : Nat), k ≤ q ∧ k ≤ 17 ∧ i = .int .i64 (k : Int) ∧ Blk wr g TCA #[.slice A p c, .slice A' q d] ∧ Blk wr (g + 1) TCA #[.slice none 0 0, .slice none 0 0] ∧ Blk wr (g + 1 + 1) TCA #[.slice A1 n1 c1, .slice A2 n2 c2] ∧
        OwT TFA g wr (.slice A1 n1 c1) (fewF ws a) ∧ OwP TTE g wr (.slice A2 n2 c2) ((fewT ts b).take k) ∧ Below g w wr) (fun i _ => q - (intOf i).toNat)
      case atStart => exact ⟨0, _, _, _, by omega, by omega, rfl, H0.out⟩
      case round =>
        clear H0
        obtain ⟨k, A2, n2, c2, hk, hk17, rfl, bX, bR, bY, hot, hop, hbw⟩ := hrel
        have cX := bX.cells
        have cY := bY.cells
        simp only [cellsAre, Nat.zero_add, Nat.reduceAdd, and_true] at cX cY
        have HBB := Lib.hid (And.intro bX (And.intro bR (And.intro bY (And.intro hot (And.intro hop hbw)))))
        by_cases hkq : k < q
        · have pk : (k : Int) < (q : Int) := by omega
          by_cases hk16 : k ≤ 16
          · have pk16 : (k : Int) ≤ 16 := by omega
            have hqm : q ≤ m := by have := HQ.out; unfold cutN at this; split at this <;> omega
            obtain ⟨bT, oT, rfl, hcell⟩ := (H'.out.below (by rw [HG.out]; exact hbw)).at_ (by omega)
            obtain ⟨ck1, A5, n5, c5, ck2, il5⟩ := hcell k (by omega)
            obtain ⟨x, hx⟩ : ∃ x, tC ts k = x := ⟨_, rfl⟩
            rw [hx] at ck1
            obtain ⟨r, hr⟩ : ∃ r, min n5 12 = r := ⟨_, rfl⟩
            have hmn : min (n5 : Int) 12 = (r : Int) := by omega
            have l5 := il5.le
            have l5' := il5.cap
            have hr5 : r ≤ c5 := by omega
            have hr12 : r ≤ 12 := by omega
            have hgw : g ≤ wr.heap.size := by have h1 := HG.out; have h2 := hbw.size; omega
            have htk : (fewT ts b).take (k + 1) = (fewT ts b).take k ++ [(x, (tS ts k).take 12)] := by
              have hlen : k < (fewT ts b).length := by unfold fewT; rw [List.length_map, List.length_take, List.length_take, HL'.out, HQ.out]; omega
              rw [List.take_succ_eq_append_getElem hlen]
              congr 2
              have hkm : k < ts.length := by rw [HL'.out]; omega
              have e1 : tC ts k = ts[k].1 := by simp [tC, List.getD, hkm]
              have e2 : tS ts k = ts[k].2 := by simp [tS, List.getD, hkm]
              rw [← hx, e1, e2]
              simp [fewT, cutT]
            -- the copy of the test
            have x1 : Ext wr (wr.alloc (.cells #[.int .i64 x, .slice A5 n5 c5] TTE)) := Ext.allocR _ _
            obtain ⟨W1, hW1⟩ : ∃ W1, W1 = wr.alloc (.cells #[.int .i64 x, .slice A5 n5 c5] TTE) := ⟨_, rfl⟩
            have b9 : Blk W1 wr.heap.size TTE #[.int .i64 x, .slice A5 n5 c5] := by rw [hW1]; exact Blk.new_ _ _ rfl
            rw [← hW1] at x1
            have x2 : Ext W1 (W1.alloc (.cells #[] TIN)) := Ext.allocR _ _
            have hil : Il (W1.alloc (.cells #[] TIN)) A5 r c5 ((tS ts k).take r) := ((il5.below x1).below x2).take (by omega)
            obtain ⟨hn1, hn2, hn3⟩ := hil.news
            obtain ⟨v3, w3, hrun, hrow, hgr, hbel⟩ := run_appA (P := Tryd.prog) TIS TIN _ 1 8 TIS int_info Tryd.underlying37 rfl (by omega) (by omega) W1.heap.size (.slice (some ⟨W1.heap.size, 0, none⟩) 0 0) 0 [] (OwI.empty W1) A5 r c5 (ic ((tS ts k).take r)) hn1 hn2 hn3 (ic_one _) (by omega) (by omega) x2.size
            rw [Nat.zero_add, List.nil_append] at hrow
            have ho3 : OwI W1.heap.size w3 v3 ((tS ts k).take r) := OwT.mk hil.len hrow
            have hsl3 := ho3.sl
            obtain ⟨A6, n6, c6, hv3, il6⟩ := ho3.il3
            subst hv3
            have l6 := il6.le
            have l6' := il6.cap
            have x3 : Ext W1 w3 := (Below.mono (Ext.allocR W1 (.cells #[] TIN)) (Nat.le_refl _)).trans hbel
            have b93 := b9.below x3
            have c93 := b93.cells
            have f93 := Blk.free b93 1
            simp only [cellsAre, Nat.zero_add, Nat.reduceAdd, and_true] at c93
            have b9c := (b9.below x2).cells
            simp only [cellsAre, Nat.zero_add, Nat.reduceAdd, and_true] at b9c
            have htr : (tS ts k).take r = (tS ts k).take 12 := by
              rw [← hr]
              by_cases h12 : n5 ≤ 12
              · rw [Nat.min_eq_left h12, List.take_of_length_le (by rw [il5.len]; exact Nat.le_refl _), List.take_of_length_le (by rw [il5.len]; exact h12)]
              · rw [Nat.min_eq_right (by omega)]
            rw [htr] at hsl3
            have HS3 := Lib.hid (And.intro hsl3 (And.intro b93 (bt x1 x3)))
            have HTK := Lib.hid htk
            clear hcell il5 hx hr htk hil hn1 hn2 hn3 hrow hgr hbel ho3 il6 x2 x3 b93 b9 bX bR bY hot hop hbw htr
            go_upto_region 11 with fail
            rw [← hW1]
            clear hW1
            obtain ⟨p9, hp9⟩ : ∃ p9, wr.heap.size = p9 := ⟨_, rfl⟩
            rw [hp9] at c93 f93 HS3 b9c ⊢
            go_upto_region 12 with (at_builtin; refine Go.Lib.wpList_append_run _ rfl _ _ _ _ rfl (.slice (some ⟨W1.heap.size, 0, none⟩) 0 0) (.slice A5 r c5) rfl rfl _ _ hrun ?_)
            have hb4 : Blk (w3.setCell ⟨p9, 1, none⟩ (.slice A6 n6 c6)) p9 TTE #[.int .i64 x, .slice A6 n6 c6] := HS3.out.2.1.set_ 1 _
            have hx4 : Ext wr (w3.setCell ⟨p9, 1, none⟩ (.slice A6 n6 c6)) := by
              unfold Ext
              rw [hp9]
              exact Below.setCell HS3.out.2.2 (Nat.le_refl _) _
            have hs4 : SL TIN (w3.setCell ⟨p9, 1, none⟩ (.slice A6 n6 c6)) (.slice A6 n6 c6) (ic ((tS ts k).take 12)) := HS3.out.1.held (HS3.out.2.1.heldS.set_ 1 _) (by decide)
            refine wp_world (fun W4 => Blk W4 p9 TTE #[.int .i64 x, .slice A6 n6 c6] ∧ Ext wr W4 ∧ SL TIN W4 (.slice A6 n6 c6) (ic ((tS ts k).take 12))) ⟨hb4, hx4, hs4⟩ ?_
            clear hb4 hx4 hs4 HS3 c93 f93 hrun x1
            rintro W4 ⟨hb4, hx4, hs4⟩
            have cY4 := (HBB.out.2.2.1.below hx4).cells
            have c94 := hb4.cells
            simp only [cellsAre, Nat.zero_add, Nat.reduceAdd, and_true] at cY4 c94
            obtain ⟨d4, hr4, hp4⟩ := HBB.out.2.2.2.2.1.below hx4
            have hx5 : Ext W4 (W4.alloc (.cells #[.int .i64 x, .slice A6 n6 c6] TTE)) := Ext.allocR _ _
            have hdl := hp4.len
            have hdl2 : d4.length ≤ 100 := by rw [hdl, List.length_take]; omega
            have hgw4 : g ≤ (W4.alloc (.cells #[.int .i64 x, .slice A6 n6 c6] TTE)).heap.size := Nat.le_trans hgw (Ext.size (bt hx4 hx5))
            have HR := Lib.hid (And.intro (own_below hr4 hx5) (And.intro (hp4.below hx5) (hs4.below hx5)))
            have HX := Lib.hid (bt hx4 hx5)
            have tg := own_tag (T' := TCA) (own_below hr4 hx5) (by decide)
            have HTG := Lib.hid tg
            have tg2 := own_tag (T' := TFA) (own_below hr4 hx5) (by decide)
            have HTG2 := Lib.hid tg2
            clear hb4 hx4 hs4 hr4 hp4 hx5 tg tg2 cX cY ck1 ck2 b9c
            have HCN := Lib.hid (cell_new W4 [.int .i64 x, .slice A6 n6 c6] TTE)
            go_wp2_with (at_builtin; refine wp_appE TTS TTE _ 2 32 te_info Tryd.underlying23 rfl (by omega) (by omega) rfl _ _ rfl g (.slice A2 n2 c2) d4.length (cel prE d4) rfl HR.out.1 ⟨W4.heap.size, 0, none⟩ 1 1 [.int .i64 x, .slice A6 n6 c6] rfl rfl HCN.out pr_one (by omega) (by omega) hgw4 ?_; intro v6 w6 hown6 hb6 hg6; have hn6 : OwP TTE g w6 v6 ((fewT ts b).take (k + 1)) := (by rw [HTK.out]; exact OwP.snoc (by decide) HR.out.1 HR.out.2.1 HR.out.2.2 hown6 hg6); obtain ⟨A7, n7, c7, hv7, _⟩ := hn6.slp2; subst hv7; have bX6 := (HBB.out.1.below HX.out).grown hg6 HTG.out; have bR6 := (HBB.out.2.1.below HX.out).grown hg6 HTG.out; have bY6 := (HBB.out.2.2.1.below HX.out).grown hg6 HTG.out; have cY6 := bY6.cells; have fY6 := Blk.free bY6 1; have HE := Lib.hid (And.intro bX6 (And.intro bR6 (And.intro bY6 (And.intro hn6 (And.intro hb6 hg6))))); simp only [cellsAre, Nat.zero_add, Nat.reduceAdd, and_true] at cY6; clear bX6 bR6 bY6 hn6 hown6 hb6 hg6)
            go_roundw
            case rel =>
              obtain ⟨e1, e2, e3, e4, e5, e6⟩ := HE.out
              have h4 := (HBB.out.2.2.2.1.below HX.out).grown e6 HTG2.out
              have h5 : Below g w w6 := (HBB.out.2.2.2.2.2.trans (Below.mono HX.out hgw)).trans e5
              exact ⟨k + 1, _, _, _, by omega, by omega, by go_num, e1.far (by simp; omega) _, e2.far (by simp) _, e3.set_ 1 _, h4.far e3 (by decide) 1 _, e4.far e3 (by decide) (by decide) 1 _, h5.setCell (by simp; omega) _⟩
            case measure => simp [intOf]; omega
          · have hk17' : k = 17 := by omega
            have pk16 : ¬ ((k : Int) ≤ 16) := by omega
            have hfull : (fewT ts b).take k = fewT ts b := List.take_of_length_le (by unfold fewT; rw [List.length_map, List.length_take]; omega)
            rw [hfull] at hop HBB
            have cR := bR.cells
            have fR0 := Blk.free bR 0
            have fR1 := Blk.free bR 1
            simp only [cellsAre, Nat.zero_add, Nat.reduceAdd, and_true] at cR
            have hE : Blk ((wr.setCell ⟨g + 1, 0, none⟩ (.slice A1 n1 c1)).setCell ⟨g + 1, 1, none⟩ (.slice A2 n2 c2)) (g + 1) TCA #[.slice A1 n1 c1, .slice A2 n2 c2] := (bR.set_ 0 _).set_ 1 _
            have cE := hE.cells
            simp only [cellsAre, Nat.zero_add, Nat.reduceAdd, and_true] at cE
            have b1 := bR.set_ 0 (.slice A1 n1 c1)
            have HE := Lib.hid (And.intro ((hot.far bR (by decide) 0 (.slice A1 n1 c1)).far b1 (by decide) 1 (.slice A2 n2 c2)) (And.intro ((hop.far bR (by decide) (by decide) 0 (.slice A1 n1 c1)).far b1 (by decide) (by decide) 1 (.slice A2 n2 c2)) ((hbw.setCell (show g ≤ (⟨g + 1, 0, none⟩ : Addr).block by simp) (.slice A1 n1 c1)).setCell (show g ≤ (⟨g + 1, 1, none⟩ : Addr).block by simp) (.slice A2 n2 c2))))
            clear bX bR bY hot hop hbw hE b1
            go_wp2
            (try simp only [Exit.inBlock, Exit.then])
            refine bodyPost_ret (v := (.agg #[.slice A1 n1 c1, .slice A2 n2 c2])) (by simp [results, Tryd.results15, go_sem, cE]) rfl ?_
            exact ⟨_, rfl, ⟨_, _, rfl, by rw [HG.out]; exact HE.out.1, by rw [HG.out]; exact HE.out.2.1⟩, by rw [HG.out]; exact HE.out.2.2⟩
        · have hkq2 : k = q := by omega
          have pk : ¬ ((k : Int) < (q : Int)) := by omega
          have hfull : (fewT ts b).take k = fewT ts b := List.take_of_length_le (by unfold fewT; rw [List.length_map, List.length_take, List.length_take, HL'.out, HQ.out]; omega)
          rw [hfull] at hop HBB
          have cR := bR.cells
          have fR0 := Blk.free bR 0
          have fR1 := Blk.free bR 1
          simp only [cellsAre, Nat.zero_add, Nat.reduceAdd, and_true] at cR
          have hE : Blk ((wr.setCell ⟨g + 1, 0, none⟩ (.slice A1 n1 c1)).setCell ⟨g + 1, 1, none⟩ (.slice A2 n2 c2)) (g + 1) TCA #[.slice A1 n1 c1, .slice A2 n2 c2] := (bR.set_ 0 _).set_ 1 _
          have cE := hE.cells
          simp only [cellsAre, Nat.zero_add, Nat.reduceAdd, and_true] at cE
          have b1 := bR.set_ 0 (.slice A1 n1 c1)
          have HE := Lib.hid (And.intro ((hot.far bR (by decide) 0 (.slice A1 n1 c1)).far b1 (by decide) 1 (.slice A2 n2 c2)) (And.intro ((hop.far bR (by decide) (by decide) 0 (.slice A1 n1 c1)).far b1 (by decide) (by decide) 1 (.slice A2 n2 c2)) ((hbw.setCell (show g ≤ (⟨g + 1, 0, none⟩ : Addr).block by simp) (.slice A1 n1 c1)).setCell (show g ≤ (⟨g + 1, 1, none⟩ : Addr).block by simp) (.slice A2 n2 c2))))
          clear bX bR bY hot hop hbw hE b1
          go_wp2
          (try simp only [Exit.inBlock, Exit.then])
          refine bodyPost_ret (v := (.agg #[.slice A1 n1 c1, .slice A2 n2 c2])) (by simp [results, Tryd.results15, go_sem, cE]) rfl ?_
          exact ⟨_, rfl, ⟨_, _, rfl, by rw [HG.out]; exact HE.out.1, by rw [HG.out]; exact HE.out.2.1⟩, by rw [HG.out]; exact HE.out.2.2⟩
end Go.Proofs.Tb
