/- brief: a copy of the first branches of a plan. -/
import Derived.Test.YtcjddfhhofoidaaDoorEnc
set_option linter.unusedVariables false
set_option linter.unusedSimpArgs false
namespace Go.Proofs.Tb
open Go.RowKit
attribute [local go_sem] cell_set_same

def brfL (bs : List Tt) : List Tt := (bs.take 40).map fun b => (b.1, b.2.take 12)
theorem brfL_len (bs : List Tt) : (brfL bs).length ≤ 40 := by
  unfold brfL
  rw [List.length_map, List.length_take]
  omega
theorem brfL_take (bs : List Tt) {k : Nat} (hk : k < bs.length) (h40 : k < 40) : (brfL bs).take (k + 1) = (brfL bs).take k ++ [(tC bs k, (tS bs k).take 12)] := by
  have hl : k < (brfL bs).length := by unfold brfL; rw [List.length_map, List.length_take]; omega
  rw [List.take_succ_eq_append_getElem hl]
  congr 2
  simp [brfL, tC, tS, List.getD, hk]
theorem OwB.lit0 {base : Nat} {W : World} (hb : base ≤ W.heap.size) : OwP TBR base (W.alloc (.cells #[] TBR)) (.slice (some ⟨W.heap.size, 0, none⟩) 0 0) [] :=
  ⟨[], World.ownsRow_lit W #[] 0 hb (by unfold maxLen; omega) rfl, trivial⟩
/-- append of branches to branches. -/
theorem wp_appB {o : Oper} {a : Act} {K : Act → World → Prop} {Q : Exit → Act → World → Prop} {w : World} (s x : Operand)
    (ho : o.op = .call { callee := .builtin .append, args := #[s, x], argTypes := #[TBS, TBS] }) (base : Nat) (v : Value) (bs : List Tt) (hs : a.eval s = v) (hown : OwP TBR base w v bs)
    (A : Option Addr) (m c : Nat) (bs' : List Tt) (hx : a.eval x = .slice A m c) (hsl : SlP TBR w A m c bs') (hn : bs.length ≤ 1000) (hm : m ≤ 1000) (hbase : base ≤ w.heap.size)
    (h : ∀ A' n' c' w', OwP TBR base w' (.slice A' n' c') (bs ++ bs') → Below base w w' → w.grownBy w' v.ownBlock → K (a.put o.dst (.slice A' n' c')) w') :
    Oper.wp Tryd.prog o a w K Q := by
  obtain ⟨d, h1, h2⟩ := hown
  have hdl := h2.len
  obtain ⟨d', hp, hc⟩ := hsl.ex
  have hl := hp.len
  have hlm := hsl.len
  refine wp_appA TBS TBR _ 2 32 br_info Tryd.underlying27 rfl (by omega) (by omega) s x ho base v d.length (cel prE d) hs h1 A m c (cel prE d') hx (by rw [cel_len (k := 2) (fun x _ => rfl)]; omega)
    (fun h0 => by obtain ⟨b, o, e, _⟩ := hc h0; exact ⟨_, e⟩) (fun ad e j u hj => by
      have hm0 : 0 < m := by
        rcases Nat.eq_zero_or_pos m with h0 | h0
        · exfalso
          have : d' = [] := List.eq_nil_of_length_eq_zero (by omega)
          subst this
          simp [cel] at hj
        · exact h0
      obtain ⟨b, o, e', _, hcc⟩ := hc hm0
      rw [e] at e'
      injection e' with e'
      subst e'
      rw [add_addr]
      exact hcc j u hj) (PrW.one_cell hp) (by omega) (by omega) hbase ?_
  intro v3 w3 hrow hgr hbel
  have hO := OwP.cat (m := m) (by decide) h1 h2 hp (by omega) hrow hgr
  obtain ⟨A', c', e, _⟩ := hO.slp
  subst e
  exact h _ _ _ _ hO hbel hgr
theorem Il.cut {w : World} {A : Option Addr} {n c : Nat} {xs : List Int} (h : Il w A n c xs) {r : Nat} (hr : r ≤ n) : Il w A r c (xs.take r) := h.take hr
set_option maxHeartbeats 6400000 in
set_option maxRecDepth 100000 in
theorem brief_any (A : Option Addr) (n c : Nat) (bs : List Tt) (w : World) (h : Ts w A n c bs) : Calls Tryd.prog 24 #[.slice A n c] w (Ret (fun v w' => OwP TBR w.heap.size w' v (brfL bs)) w) := by
  have hn := h.le
  have hc := h.cap
  have HL := Lib.hid h.len
  have H := Lib.hid h
  clear h
  go_enter Tryd.func24, Tryd.ntmps24
  go_wp2_with fail
  go_loopw [3, 4] (fun s i wr => ∃ (k : Nat) (A2 : Option Addr) (n2 c2 : Nat), k ≤ n ∧ k ≤ 40 ∧ i = .int .i64 (k : Int) ∧ s = .slice A2 n2 c2 ∧ OwP TBR w.heap.size wr (.slice A2 n2 c2) ((brfL bs).take k) ∧ Ext w wr) (fun _ i _ => n - (intOf i).toNat)
  case atStart => exact ⟨0, _, _, _, by omega, by omega, rfl, rfl, OwB.lit0 (Nat.le_refl _), Ext.allocR _ _⟩
  case round =>
    obtain ⟨k, A2, n2, c2, hk, hk40, rfl, rfl, ho, hx⟩ := hrel
    have HO := Lib.hid ho
    have HX := Lib.hid hx
    by_cases hlt : k < n ∧ k < 40
    · have pk : (k : Int) < (n : Int) := by omega
      have pk40 : (k : Int) < 40 := by omega
      obtain ⟨bT, oT, rfl, hcell⟩ := H.out.at_ (by omega)
      obtain ⟨ck1, A5, n5, c5, ck2, il5⟩ := hcell k hlt.1
      obtain ⟨x, hxx⟩ : ∃ x, tC bs k = x := ⟨_, rfl⟩
      obtain ⟨xs, hxs⟩ : ∃ x, tS bs k = x := ⟨_, rfl⟩
      rw [hxx] at ck1
      rw [hxs] at il5
      have l5 := il5.le
      have l5' := il5.cap
      obtain ⟨r, hr⟩ : ∃ r, min n5 12 = r := ⟨_, rfl⟩
      have hmn : min (n5 : Int) 12 = (r : Int) := by omega
      have hr5 : r ≤ c5 := by omega
      have hr12 : r ≤ 12 := by omega
      have HI5 := Lib.hid (il5.cut (r := r) (by omega))
      have htr : xs.take r = xs.take 12 := by
        rw [← hr]
        by_cases h12 : n5 ≤ 12
        · rw [Nat.min_eq_left h12, List.take_of_length_le (by rw [il5.len]; exact Nat.le_refl _), List.take_of_length_le (by rw [il5.len]; exact h12)]
        · rw [Nat.min_eq_right (by omega)]
      have HTK := Lib.hid (show (brfL bs).take (k + 1) = (brfL bs).take k ++ [(x, xs.take r)] by rw [brfL_take bs (by rw [HL.out]; exact hlt.1) hlt.2, hxx, hxs, htr])
      have HLK := Lib.hid (show ((brfL bs).take k).length ≤ 1000 by rw [List.length_take]; have := brfL_len bs; omega)
      have k1 := fun w' (hh : Ext w w') => (show w'.cell? ⟨bT, oT + k * 2, none⟩ = some (.int .i64 x) from Ext.cell hh ck1)
      have k2 := fun w' (hh : Ext w w') => (show w'.cell? ⟨bT, oT + k * 2 + 1, none⟩ = some (.slice A5 n5 c5) from Ext.cell hh ck2)
      have hst0 : Ext wr wr.drew := Ext.drew _
      clear hcell il5 hxx hxs ck1 ck2 hr htr ho
      go_upto_region 5 with fail
      refine wp_region_brn (S := Ext w) (by kernel_rfl) (by kernel_rfl) (fun _ _ _ _ _ => ⟨fun h => h, fun h => h⟩) ?_
      intro hsel_ hQ_
      obtain ⟨wd, hwd⟩ : ∃ wd, wr.drew = wd := ⟨_, rfl⟩
      rw [hwd] at hst0 ⊢
      have hBd : wr.heap.size ≤ wd.heap.size := Ext.size hst0
      have hst : Ext w wd := bt HX.out hst0
      refine wpB_chunk (f := 0) (L' := #[true, true, true, true, true, true, true, true, true, true, true, true, true, true, true, true, true, true, true, true, true, true, true, true, true]) hsel_ hQ_ [(0, true, some 16, none), (1, true, some 17, none), (2, true, some 18, none), (3, true, some 19, none), (4, true, some 20, none), (5, true, some 21, none), (7, true, some 23, none), (8, true, some 24, none), (9, true, some 25, none), (10, true, some 26, none), (11, true, some 27, none), (12, true, some 28, none), (13, true, some 29, none), (14, true, some 30, none), (15, true, some 31, none), (16, true, some 32, none), (17, true, some 33, none), (18, true, some 34, none), (19, true, some 35, none), (6, false, some 22, none), (20, false, some 36, none), (21, true, some 37, none), (22, false, some 38, none), (23, false, some 39, none), (24, false, some 3, none)] _ _ _ (by kernel_rfl) hst ?_
      repeat (first | (refine wpSeqB_pure (v := ?_) rfl ?_ ?_; rotate_left 1; (focus (intro wq_ hSq_; (try dsimp only at hSq_); go_simp; (try with_reducible rfl); done)); (try simp only [Act.put, List.setIfInBounds_toArray, List.set_cons_zero, List.set_cons_succ])) | (refine wpSeqB_pureG (v := ?_) rfl rfl ?_ ?_; rotate_left 1; (focus (intro wq_ hSq_; (try dsimp only at hSq_); go_simp; (try with_reducible rfl); done)); (try simp only [Act.put, List.setIfInBounds_toArray, List.set_cons_zero, List.set_cons_succ])) | (refine wpSeqB_off rfl rfl ?_; (try simp only [Act.put, List.setIfInBounds_toArray, List.set_cons_zero, List.set_cons_succ])) | (refine wpSeqB_offU rfl ?_; (try simp only [Act.put, List.setIfInBounds_toArray, List.set_cons_zero, List.set_cons_succ])))
      first | refine wpSeqB_call rfl (fun K hK => ?_) | refine wpSeqB_callG rfl rfl (fun K hK => ?_)
      go_simp
      have s1 := bt hst0 (Ext.allocR wd (.cells #[] TIN))
      refine hK.out _ _ (bt HX.out s1) ?_
      clear hK K
      (try simp only [List.getElem_toArray, List.getElem_cons_succ, List.getElem_cons_zero, Act.put, List.setIfInBounds_toArray, List.set_cons_zero, List.set_cons_succ])
      first | refine wpSeqB_call rfl (fun K hK => ?_) | refine wpSeqB_callG rfl rfl (fun K hK => ?_)
      refine wp_appI _ _ (by rfl) wr.heap.size (.slice (some ⟨wd.heap.size, 0, none⟩) 0 0) [] (by rfl) (OwI.lit0 hBd) A5 r c5 (xs.take r) (by rfl) (HI5.out.below (bt HX.out s1)) (by simp) (by omega) (Ext.size s1) ?_
      intro A7 n7 c7 w7 hO hB hG
      rw [List.nil_append] at hO
      have s7 : Ext wr w7 := Below.trans s1 hB
      refine hK.out _ _ (bt HX.out s7) ?_
      clear hK K hG hB
      (try simp only [List.getElem_toArray, List.getElem_cons_succ, List.getElem_cons_zero, Act.put, List.setIfInBounds_toArray, List.set_cons_zero, List.set_cons_succ])
      repeat (first | (refine wpSeqB_pure (v := ?_) rfl ?_ ?_; rotate_left 1; (focus (intro wq_ hSq_; (try dsimp only at hSq_); go_simp; (try with_reducible rfl); done)); (try simp only [Act.put, List.setIfInBounds_toArray, List.set_cons_zero, List.set_cons_succ])) | (refine wpSeqB_pureG (v := ?_) rfl rfl ?_ ?_; rotate_left 1; (focus (intro wq_ hSq_; (try dsimp only at hSq_); go_simp; (try with_reducible rfl); done)); (try simp only [Act.put, List.setIfInBounds_toArray, List.set_cons_zero, List.set_cons_succ])) | (refine wpSeqB_off rfl rfl ?_; (try simp only [Act.put, List.setIfInBounds_toArray, List.set_cons_zero, List.set_cons_succ])) | (refine wpSeqB_offU rfl ?_; (try simp only [Act.put, List.setIfInBounds_toArray, List.set_cons_zero, List.set_cons_succ])))
      first | refine wpSeqB_call rfl (fun K hK => ?_) | refine wpSeqB_callG rfl rfl (fun K hK => ?_)
      go_simp
      have s8 := bt s7 (Ext.allocR w7 (.cells #[.int .i64 x, .slice A7 n7 c7] TBR))
      have hZ8 : SlP TBR (w7.alloc (.cells #[.int .i64 x, .slice A7 n7 c7] TBR)) (some ⟨w7.heap.size, 0, none⟩) 1 1 [(x, xs.take r)] := SlP.one (Blk.new_ _ _ rfl) (hO.sl.below (Ext.allocR _ _))
      refine hK.out _ _ (bt HX.out s8) ?_
      clear hK K
      (try simp only [List.getElem_toArray, List.getElem_cons_succ, List.getElem_cons_zero, Act.put, List.setIfInBounds_toArray, List.set_cons_zero, List.set_cons_succ])
      first | refine wpSeqB_call rfl (fun K hK => ?_) | refine wpSeqB_callG rfl rfl (fun K hK => ?_)
      refine wp_appB _ _ (by rfl) w.heap.size (.slice A2 n2 c2) ((brfL bs).take k) (by rfl) (HO.out.below s8) (some ⟨w7.heap.size, 0, none⟩) 1 1 [(x, xs.take r)] (by rfl) hZ8 HLK.out (by omega) (Ext.size (bt HX.out s8)) ?_
      intro A9 n9 c9 w9 hO9 hB9 hG9
      have s9 : Ext w w9 := Below.trans (bt HX.out s8) hB9
      have HO9 := Lib.hid (show OwP TBR w.heap.size w9 (.slice A9 n9 c9) ((brfL bs).take (k + 1)) by rw [HTK.out]; exact hO9)
      clear hO9 hB9 hG9 hZ8 hO s8 s7 s1
      refine hK.out _ _ s9 ?_
      clear hK K
      (try simp only [List.getElem_toArray, List.getElem_cons_succ, List.getElem_cons_zero, Act.put, List.setIfInBounds_toArray, List.set_cons_zero, List.set_cons_succ])
      repeat (first | (refine wpSeqB_pure (v := ?_) rfl ?_ ?_; rotate_left 1; (focus (intro wq_ hSq_; (try dsimp only at hSq_); go_simp; (try with_reducible rfl); done)); (try simp only [Act.put, List.setIfInBounds_toArray, List.set_cons_zero, List.set_cons_succ])) | (refine wpSeqB_pureG (v := ?_) rfl rfl ?_ ?_; rotate_left 1; (focus (intro wq_ hSq_; (try dsimp only at hSq_); go_simp; (try with_reducible rfl); done)); (try simp only [Act.put, List.setIfInBounds_toArray, List.set_cons_zero, List.set_cons_succ])) | (refine wpSeqB_off rfl rfl ?_; (try simp only [Act.put, List.setIfInBounds_toArray, List.set_cons_zero, List.set_cons_succ])) | (refine wpSeqB_offU rfl ?_; (try simp only [Act.put, List.setIfInBounds_toArray, List.set_cons_zero, List.set_cons_succ])))
      first | refine wpSeqB_call rfl (fun K hK => ?_) | refine wpSeqB_callG rfl rfl (fun K hK => ?_)
      go_simp
      refine hK.out _ _ s9 ?_
      clear hK K
      (try simp only [List.getElem_toArray, List.getElem_cons_succ, List.getElem_cons_zero, Act.put, List.setIfInBounds_toArray, List.set_cons_zero, List.set_cons_succ])
      repeat (first | (refine wpSeqB_pure (v := ?_) rfl ?_ ?_; rotate_left 1; (focus (intro wq_ hSq_; (try dsimp only at hSq_); go_simp; (try with_reducible rfl); done)); (try simp only [Act.put, List.setIfInBounds_toArray, List.set_cons_zero, List.set_cons_succ])) | (refine wpSeqB_pureG (v := ?_) rfl rfl ?_ ?_; rotate_left 1; (focus (intro wq_ hSq_; (try dsimp only at hSq_); go_simp; (try with_reducible rfl); done)); (try simp only [Act.put, List.setIfInBounds_toArray, List.set_cons_zero, List.set_cons_succ])) | (refine wpSeqB_off rfl rfl ?_; (try simp only [Act.put, List.setIfInBounds_toArray, List.set_cons_zero, List.set_cons_succ])) | (refine wpSeqB_offU rfl ?_; (try simp only [Act.put, List.setIfInBounds_toArray, List.set_cons_zero, List.set_cons_succ])))
      intro s_
      refine wpB_end (by kernel_rfl) ?_
      have HX9 := Lib.hid s9
      clear s_ s9 hst hst0 k1 k2
      go_wp2
      go_roundw
      case rel => exact ⟨k + 1, _, _, _, by omega, by omega, by go_num, rfl, HO9.out, HX9.out⟩
      case measure => simp [intOf]; omega
    · have HE := Lib.hid (show (brfL bs).take k = brfL bs from List.take_of_length_le (by unfold brfL; rw [List.length_map, List.length_take, HL.out]; omega))
      have HF := Lib.hid (show OwP TBR w.heap.size wr (.slice A2 n2 c2) (brfL bs) by rw [← HE.out]; exact ho)
      clear ho
      by_cases hkn : k < n
      · have pk : (k : Int) < (n : Int) := by omega
        have pk40 : ¬ ((k : Int) < 40) := by omega
        go_wp2
        go_returns
        exact ⟨_, rfl, HF.out, HX.out⟩
      · obtain rfl : k = n := by omega
        go_wp2
        go_returns
        exact ⟨_, rfl, HF.out, HX.out⟩
end Go.Proofs.Tb
