/- ProbeCodes returns true. -/
import Derived.Test.YtcjddfhhofoidaaDoorCeb
import Derived.Test.YtcjddfhhofoidaaDoorFlb
import Derived.Test.YtcjddfhhofoidaaDoorGd
import Derived.Test.YtcjddfhhofoidaaDoorRc
import Derived.Deep.CutBlock
set_option linter.unusedVariables false
set_option linter.unusedSimpArgs false
namespace Go.Proofs.Tb
open Go.RowKit
attribute [local go_sem] cell_set_same

theorem wsm_wS' (ws xs : List Int) : wsm ws xs xs.length = wS ws xs := by
  rw [wsm_sum ws xs _ (Nat.le_refl _), List.take_length]
  rfl
/-- A test that shows some, but not all faults splits them. -/
theorem sp_mk {n : Nat} {xs : List Int} (hx : Ris xs (n : Int)) (h1 : 0 < xs.length) (h2 : xs.length < n) : spB xs (upL n) = true := by
  unfold spB
  rw [Bool.and_eq_true, decide_eq_true_eq, decide_eq_true_eq]
  constructor
  · have h := hx.bd 0 h1
    refine List.length_pos_of_mem (a := xs.getD 0 0) (List.mem_filter.2 ⟨upL_mem'.2 h, ?_⟩)
    unfold shB
    rw [decide_eq_true_eq]
    exact getD_in h1
  · apply Classical.byContradiction
    intro h0
    have h0' : ((upL n).filter fun f => !shB xs f) = [] := List.eq_nil_of_length_eq_zero (by omega)
    have hall : ∀ x ∈ upL n, x ∈ xs := fun x hxm => by
      apply Classical.byContradiction
      intro hno
      have : x ∈ (upL n).filter fun f => !shB xs f := List.mem_filter.2 ⟨hxm, by unfold shB; simpa using hno⟩
      rw [h0'] at this
      cases this
    have := nodup_le (upL_nodup n) hall
    rw [upL_len] at this
    omega
theorem sp_iff {n : Nat} {xs : List Int} (hx : Ris xs (n : Int)) : spB xs (upL n) = true ↔ 0 < xs.length ∧ xs.length < n :=
  ⟨fun h => sp_len hx (fun x hm => upL_mem'.1 hm) h, fun h => sp_mk hx h.1 h.2⟩
theorem FlP.det {ws : List Int} {ts : List Tt} (hv : Cv ws ts) {x y : Int} (h : FlP ws ts x) (h' : FlP ws ts y) : x = y := by
  rcases h with ⟨h1, rfl⟩ | ⟨h1, b, ls, S, hr, rfl⟩
  · rcases h' with ⟨_, rfl⟩ | ⟨h2, _⟩
    · rfl
    · omega
  · rcases h' with ⟨h2, _⟩ | ⟨_, b', ls', S', hr', rfl⟩
    · omega
    · rw [(HRk.det (clW_ok hv) hr hr').2.2]
theorem OwS.keepK {base b1 : Nat} {w w' : World} {v : Value} {xss : List (List Int)} (h : OwS base b1 w v xss) (hb : base ≤ b1) (hk : ∀ b, base ≤ b → b < w.heap.size → w'.heap[b]? = w.heap[b]?) : OwS base b1 w' v xss := by
  obtain ⟨vs, h1, h2, h3, h4⟩ := h
  refine ⟨vs, ⟨h1.1, ?_⟩, h2, fun j => (h3 j).keepG fun g cs e hg => hk g (Nat.le_trans hb (own_geE (h3 j) g e)) (block_lt hg), h4⟩
  rcases h1.2 with h | ⟨g, cap, cur, e, hb, hh, h5⟩
  · exact Or.inl h
  · exact Or.inr ⟨g, cap, cur, e, hb, (hk g hb (block_lt hh)).trans hh, h5⟩
/-- The weights so far: their row lies apart from the classes. -/
def WtI (w wo w2 : World) (wr : World) (v : Value) (xs : List Int) : Prop :=
  OwI w.heap.size wr v xs ∧ (∀ g, v.ownBlock = some g → g < wo.heap.size ∨ w2.heap.size ≤ g) ∧ (∀ b, wo.heap.size ≤ b → b < w2.heap.size → wr.heap[b]? = w2.heap[b]?) ∧ w2.heap.size ≤ wr.heap.size ∧ Ext w wr
theorem WtI.snoc {w wo w2 wr w3 : World} {v v' : Value} {xs : List Int} {x : Int} (h : WtI w wo w2 wr v xs) (hw : w.heap.size ≤ wo.heap.size) (ho : OwI w.heap.size w3 v' (xs ++ [x])) (hb : Below w.heap.size wr w3) (hg : wr.grownBy w3 v.ownBlock)
    (hv : v'.ownBlock = v.ownBlock ∨ v'.ownBlock = some wr.heap.size) : WtI w wo w2 w3 v' (xs ++ [x]) := by
  obtain ⟨h1, h2, h3, h4, h5⟩ := h
  refine ⟨ho, fun g e => ?_, fun b hb1 hb2 => ?_, Nat.le_trans h4 hg.size, Below.trans h5 hb⟩
  · rcases hv with hv | hv
    · exact h2 g (by rw [← hv]; exact e)
    · rw [hv] at e
      injection e with e
      omega
  · refine (hg.block b (by omega) (fun e => ?_)).trans (h3 b hb1 hb2)
    rcases h2 b e.symm with h | h <;> omega
theorem WtI.below {w wo w2 wr w3 : World} {v : Value} {xs : List Int} (h : WtI w wo w2 wr v xs) (hx : Ext wr w3) : WtI w wo w2 w3 v xs := by
  obtain ⟨h1, h2, h3, h4, h5⟩ := h
  exact ⟨h1.below hx, h2, fun b hb1 hb2 => (Below.block hx b (by omega)).trans (h3 b hb1 hb2), Nat.le_trans h4 (Ext.size hx), bt h5 hx⟩
set_option maxHeartbeats 6400000 in
set_option maxRecDepth 100000 in
theorem zfloor_any (A A' : Option Addr) (n c m d : Nat) (ws : List Int) (ts : List Tt) (w : World) (h : Il w A n c ws) (h' : Ts w A' m d ts) (hv : Cv ws ts) :
    Calls Tryd.prog 37 #[.slice A n c, .slice A' m d] w (Ret (fun v _ => ∃ x, v = .int .i64 x ∧ FlP ws ts x) w) := by
  have hn := h.le
  have hc := h.cap
  have hm := h'.le
  have hd := h'.cap
  have hn10 : n ≤ 10 := by rw [← h.len]; exact hv.len10
  have hm16 : m ≤ 16 := by rw [← h'.len]; exact hv.1.2.2
  have HL := Lib.hid h.len
  have HL' := Lib.hid h'.len
  have H := Lib.hid h
  have H' := Lib.hid h'
  have HV := Lib.hid hv
  clear h h' hv
  go_enter Tryd.func37, Tryd.ntmps37
  go_upto_region 2 with fail
  have x0 : Ext w (w.alloc (.cells #[] TIN)) := Ext.allocR _ _
  have ho0 : OwI w.heap.size (w.alloc (.cells #[] TIN)) (.slice (some ⟨w.heap.size, 0, none⟩) 0 0) [] := OwI.empty w
  refine wp_world (fun W0 => Ext w W0 ∧ OwI w.heap.size W0 (.slice (some ⟨w.heap.size, 0, none⟩) 0 0) []) ⟨x0, ho0⟩ ?_
  clear x0 ho0
  rintro wo ⟨xo, ho0⟩
  have XO := Lib.hid xo
  have HO0 := Lib.hid ho0
  clear xo ho0
  go_wp2_with fail
  refine (zapart_ge A A' n c m d ws ts wo (H.out.below XO.out) (H'.out.below XO.out) (by omega) (by omega)).mono ?_
  rintro e w2 ⟨v2, rfl, ⟨b1, hb1, hs2⟩, hb2⟩
  have HS2 := Lib.hid (And.intro hb1 hs2)
  obtain ⟨A9, c9, rfl, gs9⟩ := hs2.gs
  have hck := clsT_ok n ts
  have hcw := clW_ok HV.out
  rw [HL.out] at hcw
  obtain ⟨cs, hcs⟩ : ∃ cs, clsT n ts = cs := ⟨_, rfl⟩
  rw [hcs] at gs9 hck hcw ⊢
  obtain ⟨p, hp⟩ : ∃ p, cs.length = p := ⟨_, rfl⟩
  rw [hp] at gs9 ⊢
  have hcl : (clW ws cs).length = p := by unfold clW; rw [List.length_map, hp]
  have hp10 : p ≤ 10 := by rw [← hp, ← hcs]; exact Nat.le_trans (apC_len _ _) hn10
  have HP := Lib.hid hp
  have HCS := Lib.hid hcs
  have HCK := Lib.hid hck
  have HCW := Lib.hid hcw
  have HCL := Lib.hid hcl
  have g9 := gs9.le
  have g9' := gs9.cap
  have G9 := Lib.hid gs9
  have X2 := Lib.hid (bt XO.out hb2)
  have HO2 := Lib.hid (show WtI w wo w2 w2 (.slice (some ⟨w.heap.size, 0, none⟩) 0 0) [] from ⟨HO0.out.below hb2, fun g e => Or.inl (by have := HO0.out.size e; exact this), fun _ _ _ => rfl, Nat.le_refl _, X2.out⟩)
  clear hs2 gs9 hb2 hp hcs hck hcw hcl
  go_wp2_with fail
  go_loopw [5, 7] (fun s i wr => ∃ (q : Nat) (A3 : Option Addr) (n3 c3 : Nat), q ≤ p ∧ i = .int .i64 (q : Int) ∧ s = .slice A3 n3 c3 ∧ WtI w wo w2 wr (.slice A3 n3 c3) ((clW ws cs).take q)) (fun _ i _ => p - (intOf i).toNat)
  case atStart => exact ⟨0, _, _, _, by omega, rfl, rfl, HO2.out⟩
  case round =>
    clear HO2 hb1
    obtain ⟨q, A3, n3, c3, hq, rfl, rfl, hwt⟩ := hrel
    have HWT := Lib.hid hwt
    by_cases hqp : q < p
    · have pq : (q : Int) < (p : Int) := by omega
      obtain ⟨A9', c9', e9, gsr⟩ := (HS2.out.2.keepK HS2.out.1 hwt.2.2.1).gs
      rw [show (clsT n ts).length = p by rw [HCS.out, HP.out]] at e9 gsr
      injection e9 with e1 e2 e3
      subst e1 e3
      rw [HCS.out] at gsr
      obtain ⟨bG, oG, rfl, hcG⟩ := gsr.at_ (by omega)
      obtain ⟨A6, n6, c6, kg, ig⟩ := hcG q hqp
      have hqc : q < cs.length := by rw [HP.out]; exact hqp
      have hcq : cs.getD q [] = cs[q] := by show (cs[q]?).getD [] = _; rw [List.getElem?_eq_getElem hqc]; rfl
      have hmem := List.getElem_mem hqc
      obtain ⟨cl, hcl⟩ : ∃ cl, cs.getD q [] = cl := ⟨_, rfl⟩
      rw [hcl] at ig
      have hrg : ∀ x ∈ cl, 0 ≤ x ∧ x < (n : Int) := fun x hx => HCK.out.rng hmem (by rw [← hcq, hcl]; exact hx)
      have hln : cl.length ≤ n := by rw [← hcl, hcq]; exact HCK.out.clen hmem
      have HTK := Lib.hid (show (clW ws cs).take (q + 1) = (clW ws cs).take q ++ [wS ws cl] by
        rw [clW_take (by rw [HP.out]; exact hqp), hcl])
      have HLK := Lib.hid (show ((clW ws cs).take q).length ≤ 1000 by rw [List.length_take]; omega)
      have HIG := Lib.hid ig
      have i6 := ig.le
      have i6' := ig.cap
      have hn6 : n6 ≤ 10 := by rw [← ig.len]; omega
      have HRG := Lib.hid hrg
      obtain ⟨wi, rfl⟩ : ∃ wi, wi = wr := ⟨_, rfl⟩
      clear hcG hcl ig hrg hln hmem hcq hqc hwt gsr
      go_wp2_with fail
      refine (zweight_any A A6 n c n6 c6 ws cl wi (H.out.below HWT.out.2.2.2.2) HIG.out (fun j _ => okF_nn HV.out j) (fun j hj => HRG.out _ (getD_in (d := 0) (by rw [HIG.out.len]; exact hj))) (by omega)).mono ?_
      rintro e w5 ⟨v5, rfl, hv5, hb5⟩
      have hn6e : wsm ws cl n6 = wS ws cl := by rw [← HIG.out.len]; exact wsm_wS' ws cl
      rw [hn6e] at hv5
      subst hv5
      obtain ⟨B, hB⟩ : ∃ B, wS ws cl = B := ⟨_, rfl⟩
      rw [hB] at HTK ⊢
      have HW5 := Lib.hid (HWT.out.below (bt hb5 (Ext.allocR w5 (.cells #[.int .i64 B] TIN))))
      have hsz : w.heap.size ≤ (w5.alloc (.cells #[.int .i64 B] TIN)).heap.size := Ext.size HW5.out.2.2.2.2
      have hwwo : w.heap.size ≤ wo.heap.size := Ext.size XO.out
      have HWO := Lib.hid hwwo
      clear hb5 hn6e hB hwwo
      go_wp2_with (at_builtin; refine wp_appE2 TIS TIN _ 1 8 int_info Tryd.underlying37 rfl (by omega) (by omega) rfl _ _ rfl w.heap.size (.slice A3 n3 c3) _ _ rfl HW5.out.1 ⟨w5.heap.size, 0, none⟩ 1 1 [.int .i64 B] rfl rfl (cell_new w5 [.int .i64 B] TIN) (int_one _) (by have := HLK.out; omega) (by omega) hsz ?_; intro v6 w6 hown6 hb6 hg6 hd6; have hn6' : WtI w wo w2 w6 v6 ((clW ws cs).take (q + 1)) := (by rw [HTK.out]; exact HW5.out.snoc HWO.out (OwI.snoc hown6) hb6 hg6 hd6); obtain ⟨A7, n7, c7, hv7, _⟩ := hn6'.1.il3; subst hv7; have HE := Lib.hid hn6'; clear hn6' hown6 hb6 hg6 hd6)
      go_roundw
      case rel => exact ⟨q + 1, _, _, _, by omega, by go_num, rfl, HE.out⟩
      case measure => simp [intOf]; omega
    · obtain rfl : q = p := by omega
      rw [show (clW ws cs).take q = clW ws cs from List.take_of_length_le (by rw [HCL.out]; exact Nat.le_refl _)] at hwt
      have I3 := Lib.hid hwt.1.ilv
      have XW := Lib.hid hwt.2.2.2.2
      have hn3 : n3 = q := by rw [← hwt.1.ilv.len]; exact HCL.out
      subst hn3
      clear hwt HWT
      go_wp2_with fail
      refine (zcodes_any A3 n3 c3 (clW ws cs) wr I3.out HCW.out).mono ?_
      rintro e w5 ⟨v5, rfl, ⟨A8, c8, b, ls, S, rfl, il8, hr⟩, hb5⟩
      have hsb := HRk.sbd HCW.out hr (by omega)
      have HR := Lib.hid hr
      have X5 := Lib.hid (bt XW.out hb5)
      have l8 := il8.le
      have l8' := il8.cap
      clear hr hb5 il8
      go_wp2_with fail
      go_loopw [10, 11] (fun s i wr => ∃ k : Nat, k ≤ m ∧ i = .int .i64 (k : Int) ∧ s = .int .i64 (lsK n ts k) ∧ Ext w wr) (fun _ i _ => m - (intOf i).toNat)
      case atStart => exact ⟨0, by omega, rfl, rfl, X5.out⟩
      case round =>
        obtain ⟨k, hk, rfl, rfl, hx⟩ := hrel
        have HX := Lib.hid hx
        by_cases hkm : k < m
        · have pk : (k : Int) < (m : Int) := by omega
          have hris := (HV.out.2.2 k (by rw [HL'.out]; exact hkm)).2
          rw [HL.out] at hris
          have hsp := sp_iff hris
          obtain ⟨bT, oT, rfl, hcell⟩ := (H'.out.below hx).at_ (by omega)
          obtain ⟨ck1, A5, n5, c5, ck2, il5⟩ := hcell k hkm
          obtain ⟨x, hxx⟩ : ∃ x, tC ts k = x := ⟨_, rfl⟩
          have hon := lsK_on (n := n) (k := k) (ts := ts)
          have hoff := lsK_off (n := n) (k := k) (ts := ts)
          rw [hxx] at hon hoff ck1
          obtain ⟨M, hM⟩ : ∃ M, lsK n ts k = M := ⟨_, rfl⟩
          rw [hM] at hon hoff ⊢
          have HON := Lib.hid hon
          have HOFF := Lib.hid hoff
          have HIL5 := Lib.hid il5
          have l5 := il5.le
          have l5' := il5.cap
          have kT := fun w' (hh : Ext wr w') => (show w'.cell? ⟨bT, oT + k * 2, none⟩ = some (.int .i64 x) ∧ w'.cell? ⟨bT, oT + k * 2 + 1, none⟩ = some (.slice A5 n5 c5) from ⟨Ext.cell hh ck1, Ext.cell hh ck2⟩)
          have hst : Ext wr wr.drew := Ext.drew _
          obtain ⟨sp, hspv⟩ : ∃ sp, spB (tS ts k) (upL n) = sp := ⟨_, rfl⟩
          rw [hspv] at hsp
          have HSP := Lib.hid hspv
          clear hcell hxx il5 hon hoff hM ck1 ck2 hx hspv hris
          cases sp with
          | false =>
            have HN := Lib.hid (show lsK n ts (k + 1) = M from HOFF.out fun h => by have := hsp.2 h.1; cases this)
            clear hsp
            go_upto_region 12 with fail
            refine wp_region_adv 17 [] [(0, true, some 42, none), (1, true, some 43, none), (2, true, some 44, none), (3, true, some 45, none), (4, true, some 46, none), (5, false, some 47, none), (6, false, some 48, none), (7, true, some 49, none), (8, true, some 50, some (49, true)), (9, true, some 51, some (49, true)), (10, true, some 52, some (49, true)), (11, true, some 53, some (52, false)), (12, true, some 54, some (52, false)), (13, true, some 55, some (52, false)), (14, true, some 56, some (52, false)), (15, true, some 57, some (52, false)), (16, true, some 58, some (52, false))] (by kernel_rfl) (by kernel_rfl) (by kernel_rfl) (by intro it hit; (repeat (rcases List.mem_cons.1 hit with rfl | hit; (focus (intro o ho ev w; injection ho with ho; subst ho; kernel_rfl)))); cases hit) (fun _ _ _ _ _ => ⟨fun h => h, fun h => h⟩) hst ?_
            repeat (first | (refine wpSeq_pure (v := ?_) rfl ?_ ?_; rotate_left 1; (focus (intro wq_ hSq_; (try dsimp only at hSq_); go_simp; (try with_reducible rfl); done)); (try simp only [Act.put, List.setIfInBounds_toArray, List.set_cons_zero, List.set_cons_succ])) | (refine wpSeq_pureG (v := ?_) rfl rfl ?_ ?_; rotate_left 1; (focus (intro wq_ hSq_; (try dsimp only at hSq_); go_simp; (try with_reducible rfl); done)); (try simp only [Act.put, List.setIfInBounds_toArray, List.set_cons_zero, List.set_cons_succ])) | (refine wpSeq_off rfl rfl ?_; (try simp only [Act.put, List.setIfInBounds_toArray, List.set_cons_zero, List.set_cons_succ])) | (refine wpSeq_offU rfl ?_; (try simp only [Act.put, List.setIfInBounds_toArray, List.set_cons_zero, List.set_cons_succ])))
            first | refine wpSeq_call rfl (fun u1 g1 s1 K hK => ?_) | refine wpSeq_callG rfl rfl (fun u1 g1 s1 K hK => ?_)
            go_simp
            refine (zall_any A n c ws u1 (H.out.below (bt HX.out s1)) (by omega)).mono ?_
            rintro e y1 ⟨v1, rfl, ho1, b1⟩
            obtain ⟨A1, n1, c1, hv1, il1⟩ := ho1.il3
            subst hv1
            have hn1 : n1 = n := by rw [← il1.len]; exact upL_len n
            rw [hn1] at il1 ⊢
            clear hn1
            have l1 := il1.le
            have l1' := il1.cap
            (try go_wp2_with fail)
            refine hK.out _ _ b1 ?_
            clear hK K
            (try simp only [Act.put, List.setIfInBounds_toArray, List.set_cons_zero, List.set_cons_succ])
            repeat (first | (refine wpSeq_pure (v := ?_) rfl ?_ ?_; rotate_left 1; (focus (intro wq_ hSq_; (try dsimp only at hSq_); go_simp; (try with_reducible rfl); done)); (try simp only [Act.put, List.setIfInBounds_toArray, List.set_cons_zero, List.set_cons_succ])) | (refine wpSeq_pureG (v := ?_) rfl rfl ?_ ?_; rotate_left 1; (focus (intro wq_ hSq_; (try dsimp only at hSq_); go_simp; (try with_reducible rfl); done)); (try simp only [Act.put, List.setIfInBounds_toArray, List.set_cons_zero, List.set_cons_succ])) | (refine wpSeq_off rfl rfl ?_; (try simp only [Act.put, List.setIfInBounds_toArray, List.set_cons_zero, List.set_cons_succ])) | (refine wpSeq_offU rfl ?_; (try simp only [Act.put, List.setIfInBounds_toArray, List.set_cons_zero, List.set_cons_succ])))
            first | refine wpSeq_call rfl (fun u2 g2 s2 K hK => ?_) | refine wpSeq_callG rfl rfl (fun u2 g2 s2 K hK => ?_)
            go_simp
            refine (zsplits_any A5 A1 n5 c5 n c1 (tS ts k) (upL n) x u2 (HIL5.out.below s2) (il1.below g2) (by omega)).mono ?_
            rintro e y2 ⟨v2, rfl, hv2, b2⟩
            rw [HSP.out] at hv2
            subst hv2
            (try go_wp2_with fail)
            refine hK.out _ _ b2 ?_
            clear hK K
            (try simp only [Act.put, List.setIfInBounds_toArray, List.set_cons_zero, List.set_cons_succ])
            repeat (first | (refine wpSeq_pure (v := ?_) rfl ?_ ?_; rotate_left 1; (focus (intro wq_ hSq_; (try dsimp only at hSq_); go_simp; (try with_reducible rfl); done)); (try simp only [Act.put, List.setIfInBounds_toArray, List.set_cons_zero, List.set_cons_succ])) | (refine wpSeq_pureG (v := ?_) rfl rfl ?_ ?_; rotate_left 1; (focus (intro wq_ hSq_; (try dsimp only at hSq_); go_simp; (try with_reducible rfl); done)); (try simp only [Act.put, List.setIfInBounds_toArray, List.set_cons_zero, List.set_cons_succ])) | (refine wpSeq_off rfl rfl ?_; (try simp only [Act.put, List.setIfInBounds_toArray, List.set_cons_zero, List.set_cons_succ])) | (refine wpSeq_offU rfl ?_; (try simp only [Act.put, List.setIfInBounds_toArray, List.set_cons_zero, List.set_cons_succ])))
            intro wz gz sz
            (try simp only [endJ, List.drop_succ_cons, List.drop_zero])
            have HXZ := Lib.hid (bt HX.out sz)
            have ckz := (kT wz sz).1
            clear hst kT g1 s1 ho1 il1 b1 g2 s2 b2 gz sz
            go_wp2
            go_roundw
            case rel => exact ⟨k + 1, by omega, by go_num, by rw [HN.out], HXZ.out⟩
            case measure => simp [intOf]; omega
          | true =>
            have HT := Lib.hid (hsp.1 rfl)
            clear hsp
            by_cases h3 : M < 0
            · have HN := Lib.hid (show lsK n ts (k + 1) = x from HON.out HT.out.1 HT.out.2 (Or.inl h3))
              go_upto_region 12 with fail
              refine wp_region_adv 17 [] [(0, true, some 42, none), (1, true, some 43, none), (2, true, some 44, none), (3, true, some 45, none), (4, true, some 46, none), (5, false, some 47, none), (6, false, some 48, none), (7, true, some 49, none), (8, true, some 50, some (49, true)), (9, true, some 51, some (49, true)), (10, true, some 52, some (49, true)), (11, true, some 53, some (52, false)), (12, true, some 54, some (52, false)), (13, true, some 55, some (52, false)), (14, true, some 56, some (52, false)), (15, true, some 57, some (52, false)), (16, true, some 58, some (52, false))] (by kernel_rfl) (by kernel_rfl) (by kernel_rfl) (by intro it hit; (repeat (rcases List.mem_cons.1 hit with rfl | hit; (focus (intro o ho ev w; injection ho with ho; subst ho; kernel_rfl)))); cases hit) (fun _ _ _ _ _ => ⟨fun h => h, fun h => h⟩) hst ?_
              repeat (first | (refine wpSeq_pure (v := ?_) rfl ?_ ?_; rotate_left 1; (focus (intro wq_ hSq_; (try dsimp only at hSq_); go_simp; (try with_reducible rfl); done)); (try simp only [Act.put, List.setIfInBounds_toArray, List.set_cons_zero, List.set_cons_succ])) | (refine wpSeq_pureG (v := ?_) rfl rfl ?_ ?_; rotate_left 1; (focus (intro wq_ hSq_; (try dsimp only at hSq_); go_simp; (try with_reducible rfl); done)); (try simp only [Act.put, List.setIfInBounds_toArray, List.set_cons_zero, List.set_cons_succ])) | (refine wpSeq_off rfl rfl ?_; (try simp only [Act.put, List.setIfInBounds_toArray, List.set_cons_zero, List.set_cons_succ])) | (refine wpSeq_offU rfl ?_; (try simp only [Act.put, List.setIfInBounds_toArray, List.set_cons_zero, List.set_cons_succ])))
              first | refine wpSeq_call rfl (fun u1 g1 s1 K hK => ?_) | refine wpSeq_callG rfl rfl (fun u1 g1 s1 K hK => ?_)
              go_simp
              refine (zall_any A n c ws u1 (H.out.below (bt HX.out s1)) (by omega)).mono ?_
              rintro e y1 ⟨v1, rfl, ho1, b1⟩
              obtain ⟨A1, n1, c1, hv1, il1⟩ := ho1.il3
              subst hv1
              have hn1 : n1 = n := by rw [← il1.len]; exact upL_len n
              rw [hn1] at il1 ⊢
              clear hn1
              have l1 := il1.le
              have l1' := il1.cap
              (try go_wp2_with fail)
              refine hK.out _ _ b1 ?_
              clear hK K
              (try simp only [Act.put, List.setIfInBounds_toArray, List.set_cons_zero, List.set_cons_succ])
              repeat (first | (refine wpSeq_pure (v := ?_) rfl ?_ ?_; rotate_left 1; (focus (intro wq_ hSq_; (try dsimp only at hSq_); go_simp; (try with_reducible rfl); done)); (try simp only [Act.put, List.setIfInBounds_toArray, List.set_cons_zero, List.set_cons_succ])) | (refine wpSeq_pureG (v := ?_) rfl rfl ?_ ?_; rotate_left 1; (focus (intro wq_ hSq_; (try dsimp only at hSq_); go_simp; (try with_reducible rfl); done)); (try simp only [Act.put, List.setIfInBounds_toArray, List.set_cons_zero, List.set_cons_succ])) | (refine wpSeq_off rfl rfl ?_; (try simp only [Act.put, List.setIfInBounds_toArray, List.set_cons_zero, List.set_cons_succ])) | (refine wpSeq_offU rfl ?_; (try simp only [Act.put, List.setIfInBounds_toArray, List.set_cons_zero, List.set_cons_succ])))
              first | refine wpSeq_call rfl (fun u2 g2 s2 K hK => ?_) | refine wpSeq_callG rfl rfl (fun u2 g2 s2 K hK => ?_)
              go_simp
              refine (zsplits_any A5 A1 n5 c5 n c1 (tS ts k) (upL n) x u2 (HIL5.out.below s2) (il1.below g2) (by omega)).mono ?_
              rintro e y2 ⟨v2, rfl, hv2, b2⟩
              rw [HSP.out] at hv2
              subst hv2
              (try go_wp2_with fail)
              refine hK.out _ _ b2 ?_
              clear hK K
              (try simp only [Act.put, List.setIfInBounds_toArray, List.set_cons_zero, List.set_cons_succ])
              repeat (first | (refine wpSeq_pure (v := ?_) rfl ?_ ?_; rotate_left 1; (focus (intro wq_ hSq_; (try dsimp only at hSq_); go_simp; (try with_reducible rfl); done)); (try simp only [Act.put, List.setIfInBounds_toArray, List.set_cons_zero, List.set_cons_succ])) | (refine wpSeq_pureG (v := ?_) rfl rfl ?_ ?_; rotate_left 1; (focus (intro wq_ hSq_; (try dsimp only at hSq_); go_simp; (try with_reducible rfl); done)); (try simp only [Act.put, List.setIfInBounds_toArray, List.set_cons_zero, List.set_cons_succ])) | (refine wpSeq_off rfl rfl ?_; (try simp only [Act.put, List.setIfInBounds_toArray, List.set_cons_zero, List.set_cons_succ])) | (refine wpSeq_offU rfl ?_; (try simp only [Act.put, List.setIfInBounds_toArray, List.set_cons_zero, List.set_cons_succ])))
              intro wz gz sz
              (try simp only [endJ, List.drop_succ_cons, List.drop_zero])
              have HXZ := Lib.hid (bt HX.out sz)
              have ckz := (kT wz sz).1
              clear hst kT g1 s1 ho1 il1 b1 g2 s2 b2 gz sz
              go_wp2
              go_roundw
              case rel => exact ⟨k + 1, by omega, by go_num, by rw [HN.out], HXZ.out⟩
              case measure => simp [intOf]; omega
            · have p3 : 0 ≤ M := by omega
              have d3 : decide (M < 0) = false := decide_eq_false h3
              by_cases h4 : x < M
              · have HN := Lib.hid (show lsK n ts (k + 1) = x from HON.out HT.out.1 HT.out.2 (Or.inr h4))
                go_upto_region 12 with fail
                refine wp_region_adv 17 [] [(0, true, some 42, none), (1, true, some 43, none), (2, true, some 44, none), (3, true, some 45, none), (4, true, some 46, none), (5, false, some 47, none), (6, false, some 48, none), (7, true, some 49, none), (8, true, some 50, some (49, true)), (9, true, some 51, some (49, true)), (10, true, some 52, some (49, true)), (11, true, some 53, some (52, false)), (12, true, some 54, some (52, false)), (13, true, some 55, some (52, false)), (14, true, some 56, some (52, false)), (15, true, some 57, some (52, false)), (16, true, some 58, some (52, false))] (by kernel_rfl) (by kernel_rfl) (by kernel_rfl) (by intro it hit; (repeat (rcases List.mem_cons.1 hit with rfl | hit; (focus (intro o ho ev w; injection ho with ho; subst ho; kernel_rfl)))); cases hit) (fun _ _ _ _ _ => ⟨fun h => h, fun h => h⟩) hst ?_
                repeat (first | (refine wpSeq_pure (v := ?_) rfl ?_ ?_; rotate_left 1; (focus (intro wq_ hSq_; (try dsimp only at hSq_); go_simp; (try with_reducible rfl); done)); (try simp only [Act.put, List.setIfInBounds_toArray, List.set_cons_zero, List.set_cons_succ])) | (refine wpSeq_pureG (v := ?_) rfl rfl ?_ ?_; rotate_left 1; (focus (intro wq_ hSq_; (try dsimp only at hSq_); go_simp; (try with_reducible rfl); done)); (try simp only [Act.put, List.setIfInBounds_toArray, List.set_cons_zero, List.set_cons_succ])) | (refine wpSeq_off rfl rfl ?_; (try simp only [Act.put, List.setIfInBounds_toArray, List.set_cons_zero, List.set_cons_succ])) | (refine wpSeq_offU rfl ?_; (try simp only [Act.put, List.setIfInBounds_toArray, List.set_cons_zero, List.set_cons_succ])))
                first | refine wpSeq_call rfl (fun u1 g1 s1 K hK => ?_) | refine wpSeq_callG rfl rfl (fun u1 g1 s1 K hK => ?_)
                go_simp
                refine (zall_any A n c ws u1 (H.out.below (bt HX.out s1)) (by omega)).mono ?_
                rintro e y1 ⟨v1, rfl, ho1, b1⟩
                obtain ⟨A1, n1, c1, hv1, il1⟩ := ho1.il3
                subst hv1
                have hn1 : n1 = n := by rw [← il1.len]; exact upL_len n
                rw [hn1] at il1 ⊢
                clear hn1
                have l1 := il1.le
                have l1' := il1.cap
                (try go_wp2_with fail)
                refine hK.out _ _ b1 ?_
                clear hK K
                (try simp only [Act.put, List.setIfInBounds_toArray, List.set_cons_zero, List.set_cons_succ])
                repeat (first | (refine wpSeq_pure (v := ?_) rfl ?_ ?_; rotate_left 1; (focus (intro wq_ hSq_; (try dsimp only at hSq_); go_simp; (try with_reducible rfl); done)); (try simp only [Act.put, List.setIfInBounds_toArray, List.set_cons_zero, List.set_cons_succ])) | (refine wpSeq_pureG (v := ?_) rfl rfl ?_ ?_; rotate_left 1; (focus (intro wq_ hSq_; (try dsimp only at hSq_); go_simp; (try with_reducible rfl); done)); (try simp only [Act.put, List.setIfInBounds_toArray, List.set_cons_zero, List.set_cons_succ])) | (refine wpSeq_off rfl rfl ?_; (try simp only [Act.put, List.setIfInBounds_toArray, List.set_cons_zero, List.set_cons_succ])) | (refine wpSeq_offU rfl ?_; (try simp only [Act.put, List.setIfInBounds_toArray, List.set_cons_zero, List.set_cons_succ])))
                first | refine wpSeq_call rfl (fun u2 g2 s2 K hK => ?_) | refine wpSeq_callG rfl rfl (fun u2 g2 s2 K hK => ?_)
                go_simp
                refine (zsplits_any A5 A1 n5 c5 n c1 (tS ts k) (upL n) x u2 (HIL5.out.below s2) (il1.below g2) (by omega)).mono ?_
                rintro e y2 ⟨v2, rfl, hv2, b2⟩
                rw [HSP.out] at hv2
                subst hv2
                (try go_wp2_with fail)
                refine hK.out _ _ b2 ?_
                clear hK K
                (try simp only [Act.put, List.setIfInBounds_toArray, List.set_cons_zero, List.set_cons_succ])
                repeat (first | (refine wpSeq_pure (v := ?_) rfl ?_ ?_; rotate_left 1; (focus (intro wq_ hSq_; (try dsimp only at hSq_); go_simp; (try with_reducible rfl); done)); (try simp only [Act.put, List.setIfInBounds_toArray, List.set_cons_zero, List.set_cons_succ])) | (refine wpSeq_pureG (v := ?_) rfl rfl ?_ ?_; rotate_left 1; (focus (intro wq_ hSq_; (try dsimp only at hSq_); go_simp; (try with_reducible rfl); done)); (try simp only [Act.put, List.setIfInBounds_toArray, List.set_cons_zero, List.set_cons_succ])) | (refine wpSeq_off rfl rfl ?_; (try simp only [Act.put, List.setIfInBounds_toArray, List.set_cons_zero, List.set_cons_succ])) | (refine wpSeq_offU rfl ?_; (try simp only [Act.put, List.setIfInBounds_toArray, List.set_cons_zero, List.set_cons_succ])))
                intro wz gz sz
                (try simp only [endJ, List.drop_succ_cons, List.drop_zero])
                have HXZ := Lib.hid (bt HX.out sz)
                have ckz := (kT wz sz).1
                clear hst kT g1 s1 ho1 il1 b1 g2 s2 b2 gz sz
                go_wp2
                go_roundw
                case rel => exact ⟨k + 1, by omega, by go_num, by rw [HN.out], HXZ.out⟩
                case measure => simp [intOf]; omega
              · have p4 : M ≤ x := by omega
                have HN := Lib.hid (show lsK n ts (k + 1) = M from HOFF.out fun h => by rcases h.2 with h | h <;> omega)
                go_upto_region 12 with fail
                refine wp_region_adv 17 [] [(0, true, some 42, none), (1, true, some 43, none), (2, true, some 44, none), (3, true, some 45, none), (4, true, some 46, none), (5, false, some 47, none), (6, false, some 48, none), (7, true, some 49, none), (8, true, some 50, some (49, true)), (9, true, some 51, some (49, true)), (10, true, some 52, some (49, true)), (11, true, some 53, some (52, false)), (12, true, some 54, some (52, false)), (13, true, some 55, some (52, false)), (14, true, some 56, some (52, false)), (15, true, some 57, some (52, false)), (16, true, some 58, some (52, false))] (by kernel_rfl) (by kernel_rfl) (by kernel_rfl) (by intro it hit; (repeat (rcases List.mem_cons.1 hit with rfl | hit; (focus (intro o ho ev w; injection ho with ho; subst ho; kernel_rfl)))); cases hit) (fun _ _ _ _ _ => ⟨fun h => h, fun h => h⟩) hst ?_
                repeat (first | (refine wpSeq_pure (v := ?_) rfl ?_ ?_; rotate_left 1; (focus (intro wq_ hSq_; (try dsimp only at hSq_); go_simp; (try with_reducible rfl); done)); (try simp only [Act.put, List.setIfInBounds_toArray, List.set_cons_zero, List.set_cons_succ])) | (refine wpSeq_pureG (v := ?_) rfl rfl ?_ ?_; rotate_left 1; (focus (intro wq_ hSq_; (try dsimp only at hSq_); go_simp; (try with_reducible rfl); done)); (try simp only [Act.put, List.setIfInBounds_toArray, List.set_cons_zero, List.set_cons_succ])) | (refine wpSeq_off rfl rfl ?_; (try simp only [Act.put, List.setIfInBounds_toArray, List.set_cons_zero, List.set_cons_succ])) | (refine wpSeq_offU rfl ?_; (try simp only [Act.put, List.setIfInBounds_toArray, List.set_cons_zero, List.set_cons_succ])))
                first | refine wpSeq_call rfl (fun u1 g1 s1 K hK => ?_) | refine wpSeq_callG rfl rfl (fun u1 g1 s1 K hK => ?_)
                go_simp
                refine (zall_any A n c ws u1 (H.out.below (bt HX.out s1)) (by omega)).mono ?_
                rintro e y1 ⟨v1, rfl, ho1, b1⟩
                obtain ⟨A1, n1, c1, hv1, il1⟩ := ho1.il3
                subst hv1
                have hn1 : n1 = n := by rw [← il1.len]; exact upL_len n
                rw [hn1] at il1 ⊢
                clear hn1
                have l1 := il1.le
                have l1' := il1.cap
                (try go_wp2_with fail)
                refine hK.out _ _ b1 ?_
                clear hK K
                (try simp only [Act.put, List.setIfInBounds_toArray, List.set_cons_zero, List.set_cons_succ])
                repeat (first | (refine wpSeq_pure (v := ?_) rfl ?_ ?_; rotate_left 1; (focus (intro wq_ hSq_; (try dsimp only at hSq_); go_simp; (try with_reducible rfl); done)); (try simp only [Act.put, List.setIfInBounds_toArray, List.set_cons_zero, List.set_cons_succ])) | (refine wpSeq_pureG (v := ?_) rfl rfl ?_ ?_; rotate_left 1; (focus (intro wq_ hSq_; (try dsimp only at hSq_); go_simp; (try with_reducible rfl); done)); (try simp only [Act.put, List.setIfInBounds_toArray, List.set_cons_zero, List.set_cons_succ])) | (refine wpSeq_off rfl rfl ?_; (try simp only [Act.put, List.setIfInBounds_toArray, List.set_cons_zero, List.set_cons_succ])) | (refine wpSeq_offU rfl ?_; (try simp only [Act.put, List.setIfInBounds_toArray, List.set_cons_zero, List.set_cons_succ])))
                first | refine wpSeq_call rfl (fun u2 g2 s2 K hK => ?_) | refine wpSeq_callG rfl rfl (fun u2 g2 s2 K hK => ?_)
                go_simp
                refine (zsplits_any A5 A1 n5 c5 n c1 (tS ts k) (upL n) x u2 (HIL5.out.below s2) (il1.below g2) (by omega)).mono ?_
                rintro e y2 ⟨v2, rfl, hv2, b2⟩
                rw [HSP.out] at hv2
                subst hv2
                (try go_wp2_with fail)
                refine hK.out _ _ b2 ?_
                clear hK K
                (try simp only [Act.put, List.setIfInBounds_toArray, List.set_cons_zero, List.set_cons_succ])
                repeat (first | (refine wpSeq_pure (v := ?_) rfl ?_ ?_; rotate_left 1; (focus (intro wq_ hSq_; (try dsimp only at hSq_); go_simp; (try with_reducible rfl); done)); (try simp only [Act.put, List.setIfInBounds_toArray, List.set_cons_zero, List.set_cons_succ])) | (refine wpSeq_pureG (v := ?_) rfl rfl ?_ ?_; rotate_left 1; (focus (intro wq_ hSq_; (try dsimp only at hSq_); go_simp; (try with_reducible rfl); done)); (try simp only [Act.put, List.setIfInBounds_toArray, List.set_cons_zero, List.set_cons_succ])) | (refine wpSeq_off rfl rfl ?_; (try simp only [Act.put, List.setIfInBounds_toArray, List.set_cons_zero, List.set_cons_succ])) | (refine wpSeq_offU rfl ?_; (try simp only [Act.put, List.setIfInBounds_toArray, List.set_cons_zero, List.set_cons_succ])))
                intro wz gz sz
                (try simp only [endJ, List.drop_succ_cons, List.drop_zero])
                have HXZ := Lib.hid (bt HX.out sz)
                have ckz := (kT wz sz).1
                clear hst kT g1 s1 ho1 il1 b1 g2 s2 b2 gz sz
                go_wp2
                go_roundw
                case rel => exact ⟨k + 1, by omega, by go_num, by rw [HN.out], HXZ.out⟩
                case measure => simp [intOf]; omega
        · obtain rfl : k = m := by omega
          have hlb := lsK_bd HV.out n k
          have hls : lsK ws.length ts ts.length = lsK n ts k := by rw [HL.out, HL'.out]
          obtain ⟨M, hM⟩ : ∃ M, lsK n ts k = M := ⟨_, rfl⟩
          rw [hM] at hlb hls ⊢
          have HLS := Lib.hid hls
          clear hls hM hx
          by_cases h3 : M < 0
          · have hmx : max M 0 = 0 := by omega
            have HE := Lib.hid (show FlP ws ts 0 from Or.inl ⟨by rw [HLS.out]; exact h3, rfl⟩)
            go_wp2
            go_returns
            exact ⟨_, rfl, ⟨0, by simp, HE.out⟩, HX.out⟩
          · have p3 : 0 ≤ M := by omega
            have hmx : max M 0 = M := by omega
            have h6 := Int.mul_nonneg hsb.1 p3
            have h7 : S * M ≤ 4032000000 * 1000 := Int.mul_le_mul hsb.2 hlb.2 p3 (by omega)
            have wq : IntKind.i64.wrap (S * M) = S * M := IntWalk.i64_in _ (by omega)
            have HE := Lib.hid (show FlP ws ts (S * M) from Or.inr ⟨by rw [HLS.out]; exact p3, b, ls, S, by rw [HL.out, HCS.out, HP.out]; exact HR.out, by rw [HLS.out]⟩)
            clear h6 h7
            go_wp2
            go_returns
            exact ⟨_, rfl, ⟨_, rfl, HE.out⟩, HX.out⟩
theorem CdsR.form {ws : List Int} {v : Value} {w : World} (h : CdsR ws v w) : ∃ A n c S ee, v = .tuple #[.slice A n c, .int .i64 S, .int .i64 ee] ∧
    (Wok ws → n = ws.length ∧ ee = 0 ∧ ∃ b ls, Il w A n c ls ∧ HRk ws (ws.length - 1) [b] ls S) ∧ (¬ Wok ws → A = none ∧ n = 0 ∧ c = 0 ∧ S = 0 ∧ ee = 1) := by
  by_cases hw : Wok ws
  · obtain ⟨A, c, b, ls, S, e, hi, hr⟩ := h.1 hw
    exact ⟨A, _, c, S, 0, e, fun _ => ⟨rfl, rfl, b, ls, hi, hr⟩, fun hn => absurd hw hn⟩
  · exact ⟨none, 0, 0, 0, 1, h.2 hw, fun hy => absurd hy hw, fun _ => ⟨rfl, rfl, rfl, rfl, rfl⟩⟩
set_option maxHeartbeats 6400000 in
set_option maxRecDepth 100000 in
theorem codes_any (A A' A3 : Option Addr) (n c m d q d3 : Nat) (ws : List Int) (ts : List Tt) (xs : List Int) (w : World) (h : Il w A n c ws) (h' : Ts w A' m d ts) (hx : Il w A3 q d3 xs) (ht : Tab w) :
    Calls Tryd.prog 10 #[.slice A3 q d3, .agg #[.slice A n c, .slice A' m d]] w (Ret (fun v _ => v = .bool true) w) := by
  have hq := hx.le
  have hq' := hx.cap
  obtain ⟨r, hr⟩ : ∃ r, min q 65 = r := ⟨_, rfl⟩
  have hmn : min (q : Int) 65 = (r : Int) := by omega
  have hrq : r ≤ q := by omega
  have hrd : r ≤ d3 := by omega
  have hr65 : r ≤ 65 := by omega
  have H := Lib.hid h
  have H' := Lib.hid h'
  have HX := Lib.hid hx
  have HT := Lib.hid ht
  clear h h' hx ht hr
  go_enter Tryd.func10, Tryd.ntmps10
  go_upto_region 1 with fail
  refine wp_world (fun W0 => Blk W0 w.heap.size TCA #[.slice A n c, .slice A' m d] ∧ Ext w W0) (by exact ⟨Blk.new_ _ _ rfl, Ext.allocR _ _⟩) ?_
  rintro W0 ⟨bX, x0⟩
  obtain ⟨pX, hpX⟩ : ∃ p, w.heap.size = p := ⟨_, rfl⟩
  rw [hpX] at bX ⊢
  clear hpX
  have x1 : Ext W0 (W0.alloc (.cells #[] TIN)) := Ext.allocR _ _
  have hil : Il (W0.alloc (.cells #[] TIN)) A3 r d3 (xs.take r) := ((HX.out.below x0).below x1).take hrq
  obtain ⟨us, hus⟩ : ∃ us, xs.take r = us := ⟨_, rfl⟩
  rw [hus] at hil
  have HUL := Lib.hid hil.len
  obtain ⟨hn1, hn2, hn3⟩ := hil.news
  obtain ⟨v3, w3, hrun, hrow, hgr, hbel⟩ := run_appA (P := Tryd.prog) TIS TIN _ 1 8 TIS int_info Tryd.underlying37 rfl (by omega) (by omega) W0.heap.size (.slice (some ⟨W0.heap.size, 0, none⟩) 0 0) 0 [] (OwI.empty W0) A3 r d3 (ic us) hn1 hn2 hn3 (ic_one _) (by omega) (by omega) x1.size
  rw [Nat.zero_add, List.nil_append] at hrow
  have ho3 : OwI W0.heap.size w3 v3 us := OwT.mk hil.len hrow
  obtain ⟨A6, n6, c6, hv3, il6⟩ := ho3.il3
  subst hv3
  obtain rfl : r = n6 := by rw [← il6.len]; exact hil.len.symm
  have l6 := il6.le
  have l6' := il6.cap
  have x3 : Ext W0 w3 := (Below.mono (Ext.allocR W0 (.cells #[] TIN)) (Nat.le_refl _)).trans hbel
  have IL6 := Lib.hid il6
  have BX3 := Lib.hid (bX.below x3)
  have X3 := Lib.hid (bt x0 x3)
  clear hil hn1 hn2 hn3 hrow hgr hbel ho3 il6 x1 x3 x0 bX hus
  go_wp2_with (at_builtin; refine Go.Lib.wpList_append_run _ rfl _ _ _ _ rfl (.slice (some ⟨W0.heap.size, 0, none⟩) 0 0) (.slice A3 r d3) rfl rfl _ _ hrun ?_)
  refine (rcodesX_any A6 r c6 us w3 IL6.out).mono ?_
  rintro e w4 ⟨v4, rfl, hv4, hb4⟩
  obtain ⟨A7, n7, c7, S, ee, hv4', hok, hno⟩ := hv4.form
  subst hv4'
  have HOK := Lib.hid hok
  have HNO := Lib.hid hno
  have l7 : n7 ≤ c7 ∧ c7 ≤ 9223372036854775807 := by
    by_cases hw : Wok us
    · obtain ⟨_, _, b, ls, hi, _⟩ := hok hw; exact ⟨hi.le, hi.cap⟩
    · obtain ⟨_, e2, e3, _⟩ := hno hw; omega
  obtain ⟨l7, l7'⟩ := l7
  have X4 := Lib.hid (bt X3.out hb4)
  have IL4 := Lib.hid (IL6.out.below hb4)
  have BX4 := Lib.hid (BX3.out.below hb4)
  clear hv4 hb4 IL6 BX3 X3 hok hno hrun
  by_cases b1 : 1 ≤ r
  · by_cases b2 : r ≤ 64
    · have d1 : decide ((1 : Int) ≤ (r : Int)) = true := by simp; omega
      have d2 : decide ((r : Int) ≤ 64) = true := by simp; omega
      have HB : Hid (BI true (1 ≤ r ∧ r ≤ 64)) := show _ ↔ _ from ⟨fun _ => ⟨b1, b2⟩, fun _ => rfl⟩
      go_wp2_with fail
      go_loopw [9, 10] (fun ok i wr => ∃ (b : Bool) (k : Nat), k ≤ r ∧ i = .int .i64 (k : Int) ∧ ok = .bool b ∧ BI b ((1 ≤ r ∧ r ≤ 64) ∧ okW us k) ∧ Ext w4 wr) (fun _ i _ => r - (intOf i).toNat)
      case atStart => exact ⟨true, 0, by omega, rfl, rfl, BI.zero HB.out (okW_zero us), Ext.refl _⟩
      case round =>
        obtain ⟨b, k, hk, rfl, rfl, hb, hbw⟩ := hrel
        have HBW := Lib.hid hbw
        have HBB := Lib.hid hb
        clear hbw hb HB
        by_cases hkn : k < r
        · obtain ⟨t, o, rfl, hcell⟩ := (IL4.out.below HBW.out).at_ (by omega)
          have ck := hcell k hkn
          obtain ⟨x, hx⟩ : ∃ x, us.getD k 0 = x := ⟨_, rfl⟩
          rw [hx] at ck
          have HXX := Lib.hid hx
          clear hx hcell
          cases b with
          | false =>
            go_wp2
            go_roundw
            case rel => exact ⟨false, k + 1, by omega, by go_num, rfl, HBB.out.off okW_succ, HBW.out⟩
            case measure => simp [intOf]; omega
          | true =>
            by_cases g1 : 1 ≤ x
            · have g1' : decide ((1 : Int) ≤ x) = true := by simpa using g1
              by_cases g2 : x ≤ 1000000
              · have g2' : decide (x ≤ 1000000) = true := by simpa using g2
                have HQ := Lib.hid (HBB.out.on okW_succ (by rw [HXX.out]; exact ⟨g1, g2⟩))
                go_wp2
                go_roundw
                case rel => exact ⟨true, k + 1, by omega, by go_num, rfl, HQ.out, HBW.out⟩
                case measure => simp [intOf]; omega
              · have g2' : decide (x ≤ 1000000) = false := by simpa using g2
                have HQ := Lib.hid (HBB.out.bad okW_succ (by rw [HXX.out]; exact fun h => g2 h.2))
                go_wp2
                go_roundw
                case rel => exact ⟨false, k + 1, by omega, by go_num, rfl, HQ.out, HBW.out⟩
                case measure => simp [intOf]; omega
            · have g1' : decide ((1 : Int) ≤ x) = false := by simpa using g1
              have HQ := Lib.hid (HBB.out.bad okW_succ (by rw [HXX.out]; exact fun h => g1 h.1))
              go_wp2
              go_roundw
              case rel => exact ⟨false, k + 1, by omega, by go_num, rfl, HQ.out, HBW.out⟩
              case measure => simp [intOf]; omega
        · have hkn2 : k = r := by omega
          subst hkn2
          have HD : Hid (BI b (Wok us)) := show _ ↔ _ from ⟨fun e => by have h := HBB.out.1 e; exact ⟨by rw [HUL.out]; exact h.1, by rw [HUL.out]; exact h.2⟩, fun e => HBB.out.2 ⟨by have := e.1; rw [HUL.out] at this; exact this, by have := e.2; rw [HUL.out] at this; exact this⟩⟩
          have XR := Lib.hid (bt X4.out HBW.out)
          have BXR := Lib.hid (BX4.out.below HBW.out)
          clear HBB
          cases b with
          | false =>
            obtain ⟨rfl, rfl, rfl, rfl, rfl⟩ := HNO.out (fun h => by have := HD.out.2 h; cases this)
            have kX := BXR.out.cells
            simp only [cellsAre, Nat.zero_add, Nat.reduceAdd, and_true] at kX
            clear l7 l7'
            go_wp2_with fail
            refine (few_any A A' n c m d ws ts 10 16 (by omega) (by omega) wr (H.out.below XR.out) (H'.out.below XR.out)).mono ?_
            rintro e y1 ⟨z1, rfl, ⟨vf, vt, rfl, hf, ht⟩, hby1⟩
            obtain ⟨B1, n1, c1, hvf, il1⟩ := hf.il
            subst hvf
            obtain ⟨B2, n2, c2, hvt, sl2⟩ := ht.slp2
            subst hvt
            have ts2 := sl2.ts
            obtain ⟨wf, hwf⟩ : ∃ x, fewF ws 10 = x := ⟨_, rfl⟩
            obtain ⟨tf, htf⟩ : ∃ x, fewT ts 16 = x := ⟨_, rfl⟩
            rw [hwf] at il1
            rw [htf] at ts2
            have l1 := il1.le
            have l1' := il1.cap
            have l2 := ts2.le
            have l2' := ts2.cap
            have I1 := Lib.hid il1
            have T2 := Lib.hid ts2
            have Y1 := Lib.hid (bt XR.out hby1)
            clear hf ht sl2 il1 ts2 hwf htf hby1
            go_upto_region 15 with fail
            have b3 : Blk (y1.alloc (.cells #[.slice B1 n1 c1, .slice B2 n2 c2] TCA)) y1.heap.size TCA #[.slice B1 n1 c1, .slice B2 n2 c2] := Blk.new_ _ _ rfl
            have x3 : Ext y1 (y1.alloc (.cells #[.slice B1 n1 c1, .slice B2 n2 c2] TCA)) := Ext.allocR _ _
            refine wp_world (fun W3 => Blk W3 y1.heap.size TCA #[.slice B1 n1 c1, .slice B2 n2 c2] ∧ Ext y1 W3) ⟨b3, x3⟩ ?_
            clear b3 x3
            rintro Y3 ⟨b3, x3⟩
            obtain ⟨g, hg⟩ : ∃ g, y1.heap.size = g := ⟨_, rfl⟩
            rw [hg] at b3 ⊢
            have B3 := Lib.hid b3
            have X3 := Lib.hid x3
            have YX3 := Lib.hid (bt Y1.out x3)
            have c3 := b3.cells
            simp only [cellsAre, Nat.zero_add, Nat.reduceAdd, and_true] at c3
            clear b3 x3 hg
            go_wp2_with fail
            refine (rfloor_any B1 B2 n1 c1 n2 c2 wf tf Y3 (I1.out.below X3.out) (T2.out.below X3.out)).mono ?_
            rintro e y4 ⟨z4, rfl, hz4, hby4⟩
            have XB4 := Lib.hid (bt X3.out hby4)
            have YX4 := Lib.hid (bt YX3.out hby4)
            have B4 := Lib.hid (B3.out.below hby4)
            have k4 := B4.out.cells
            simp only [cellsAre, Nat.zero_add, Nat.reduceAdd, and_true] at k4
            clear c3 B3 hby4
            by_cases hc : Cv wf tf
            rotate_left
            · have hz4' := hz4.2 hc
              subst hz4'
              have HC := Lib.hid hc
              clear hz4 hc
              go_wp2_with fail
              refine (valid_any B1 B2 n1 c1 n2 c2 wf tf y4 (I1.out.below XB4.out) (T2.out.below XB4.out)).mono ?_
              rintro e y6 ⟨z6, rfl, hz6, hby6⟩
              rw [cvB_f HC.out] at hz6
              subst hz6
              have YX6 := Lib.hid (bt YX4.out hby6)
              clear hby6 k4
              go_wp2_with fail
              refine (lives_any y6 (HT.out.below YX6.out)).mono ?_
              rintro e y7 ⟨z7, rfl, rfl, hby7⟩
              have YX7 := Lib.hid (bt YX6.out hby7)
              clear hby7
              go_wp2
              go_returns
              exact ⟨_, rfl, rfl, YX7.out⟩
            · obtain ⟨x, hz4', hfl⟩ := hz4.1 hc
              subst hz4'
              have HC := Lib.hid hc
              have HFL := Lib.hid hfl
              clear hz4 hc hfl
              go_wp2_with fail
              refine (valid_any B1 B2 n1 c1 n2 c2 wf tf y4 (I1.out.below XB4.out) (T2.out.below XB4.out)).mono ?_
              rintro e y6 ⟨z6, rfl, hz6, hby6⟩
              rw [cvB_t HC.out] at hz6
              subst hz6
              have XB6 := Lib.hid (bt XB4.out hby6)
              have YX6 := Lib.hid (bt YX4.out hby6)
              have k6 := (B4.out.below hby6).cells
              simp only [cellsAre, Nat.zero_add, Nat.reduceAdd, and_true] at k6
              clear hby6 k4
              go_wp2_with fail
              refine (zfloor_any B1 B2 n1 c1 n2 c2 wf tf y6 (I1.out.below XB6.out) (T2.out.below XB6.out) HC.out).mono ?_
              rintro e y7 ⟨z7, rfl, ⟨x7, hz7, hfl7⟩, hby7⟩
              subst hz7
              obtain rfl : x = x7 := FlP.det HC.out HFL.out hfl7
              have hxx : (x == x) = true := by simp
              have YX7 := Lib.hid (bt YX6.out hby7)
              clear hfl7 hby7 k6
              go_wp2_with fail
              refine (lives_any y7 (HT.out.below YX7.out)).mono ?_
              rintro e y8 ⟨z8, rfl, rfl, hby8⟩
              have YX8 := Lib.hid (bt YX7.out hby8)
              clear hby8
              go_wp2
              go_returns
              exact ⟨_, rfl, rfl, YX8.out⟩
          | true =>
            have HW := Lib.hid (HD.out.1 rfl)
            obtain ⟨e1, rfl, b7, ls, hil7, hr7⟩ := HOK.out HW.out
            rw [HUL.out] at e1
            subst e1
            have IL7 := Lib.hid (hil7.below HBW.out)
            have HR7 := Lib.hid hr7
            clear hil7 hr7
            go_wp2_with fail
            refine (zcodes_any A6 n7 c6 us wr (IL4.out.below HBW.out) HW.out).mono ?_
            rintro e w5 ⟨v5, rfl, ⟨A8, c8, b8, ls8, S8, rfl, hil8, hr8⟩, hb5⟩
            obtain ⟨_, e2, e3⟩ := HRk.det HW.out HR7.out (by rw [HUL.out]; exact hr8)
            subst e2 e3
            have l8 := hil8.le
            have l8' := hil8.cap
            have IL8 := Lib.hid hil8
            have X5 := Lib.hid (bt XR.out hb5)
            have B5 := Lib.hid (BXR.out.below hb5)
            have IL75 := Lib.hid (IL7.out.below hb5)
            have kX := B5.out.cells
            simp only [cellsAre, Nat.zero_add, Nat.reduceAdd, and_true] at kX
            clear hil8 hr8 hb5
            go_wp2_with fail
            refine (lsame_any A7 A8 n7 c7 n7 c8 ls ls w5 IL75.out IL8.out).mono ?_
            rintro e w6 ⟨v6, rfl, rfl, hb6⟩
            rw [sameB_t rfl]
            have X6 := Lib.hid (bt X5.out hb6)
            have kX6 := (B5.out.below hb6).cells
            simp only [cellsAre, Nat.zero_add, Nat.reduceAdd, and_true] at kX6
            have hSS : (S == S) = true := by simp
            clear hb6 kX
            go_wp2_with fail
            refine (few_any A A' n c m d ws ts 10 16 (by omega) (by omega) w6 (H.out.below X6.out) (H'.out.below X6.out)).mono ?_
            rintro e y1 ⟨z1, rfl, ⟨vf, vt, rfl, hf, ht⟩, hby1⟩
            obtain ⟨B1, n1, c1, hvf, il1⟩ := hf.il
            subst hvf
            obtain ⟨B2, n2, c2, hvt, sl2⟩ := ht.slp2
            subst hvt
            have ts2 := sl2.ts
            obtain ⟨wf, hwf⟩ : ∃ x, fewF ws 10 = x := ⟨_, rfl⟩
            obtain ⟨tf, htf⟩ : ∃ x, fewT ts 16 = x := ⟨_, rfl⟩
            rw [hwf] at il1
            rw [htf] at ts2
            have l1 := il1.le
            have l1' := il1.cap
            have l2 := ts2.le
            have l2' := ts2.cap
            have I1 := Lib.hid il1
            have T2 := Lib.hid ts2
            have Y1 := Lib.hid (bt X6.out hby1)
            clear hf ht sl2 il1 ts2 hwf htf hby1
            go_upto_region 15 with fail
            have b3 : Blk (y1.alloc (.cells #[.slice B1 n1 c1, .slice B2 n2 c2] TCA)) y1.heap.size TCA #[.slice B1 n1 c1, .slice B2 n2 c2] := Blk.new_ _ _ rfl
            have x3 : Ext y1 (y1.alloc (.cells #[.slice B1 n1 c1, .slice B2 n2 c2] TCA)) := Ext.allocR _ _
            refine wp_world (fun W3 => Blk W3 y1.heap.size TCA #[.slice B1 n1 c1, .slice B2 n2 c2] ∧ Ext y1 W3) ⟨b3, x3⟩ ?_
            clear b3 x3
            rintro Y3 ⟨b3, x3⟩
            obtain ⟨g, hg⟩ : ∃ g, y1.heap.size = g := ⟨_, rfl⟩
            rw [hg] at b3 ⊢
            have B3 := Lib.hid b3
            have X3 := Lib.hid x3
            have YX3 := Lib.hid (bt Y1.out x3)
            have c3 := b3.cells
            simp only [cellsAre, Nat.zero_add, Nat.reduceAdd, and_true] at c3
            clear b3 x3 hg
            go_wp2_with fail
            refine (rfloor_any B1 B2 n1 c1 n2 c2 wf tf Y3 (I1.out.below X3.out) (T2.out.below X3.out)).mono ?_
            rintro e y4 ⟨z4, rfl, hz4, hby4⟩
            have XB4 := Lib.hid (bt X3.out hby4)
            have YX4 := Lib.hid (bt YX3.out hby4)
            have B4 := Lib.hid (B3.out.below hby4)
            have k4 := B4.out.cells
            simp only [cellsAre, Nat.zero_add, Nat.reduceAdd, and_true] at k4
            clear c3 B3 hby4
            by_cases hc : Cv wf tf
            rotate_left
            · have hz4' := hz4.2 hc
              subst hz4'
              have HC := Lib.hid hc
              clear hz4 hc
              go_wp2_with fail
              refine (valid_any B1 B2 n1 c1 n2 c2 wf tf y4 (I1.out.below XB4.out) (T2.out.below XB4.out)).mono ?_
              rintro e y6 ⟨z6, rfl, hz6, hby6⟩
              rw [cvB_f HC.out] at hz6
              subst hz6
              have YX6 := Lib.hid (bt YX4.out hby6)
              clear hby6 k4
              go_wp2_with fail
              refine (lives_any y6 (HT.out.below YX6.out)).mono ?_
              rintro e y7 ⟨z7, rfl, rfl, hby7⟩
              have YX7 := Lib.hid (bt YX6.out hby7)
              clear hby7
              go_wp2
              go_returns
              exact ⟨_, rfl, rfl, YX7.out⟩
            · obtain ⟨x, hz4', hfl⟩ := hz4.1 hc
              subst hz4'
              have HC := Lib.hid hc
              have HFL := Lib.hid hfl
              clear hz4 hc hfl
              go_wp2_with fail
              refine (valid_any B1 B2 n1 c1 n2 c2 wf tf y4 (I1.out.below XB4.out) (T2.out.below XB4.out)).mono ?_
              rintro e y6 ⟨z6, rfl, hz6, hby6⟩
              rw [cvB_t HC.out] at hz6
              subst hz6
              have XB6 := Lib.hid (bt XB4.out hby6)
              have YX6 := Lib.hid (bt YX4.out hby6)
              have k6 := (B4.out.below hby6).cells
              simp only [cellsAre, Nat.zero_add, Nat.reduceAdd, and_true] at k6
              clear hby6 k4
              go_wp2_with fail
              refine (zfloor_any B1 B2 n1 c1 n2 c2 wf tf y6 (I1.out.below XB6.out) (T2.out.below XB6.out) HC.out).mono ?_
              rintro e y7 ⟨z7, rfl, ⟨x7, hz7, hfl7⟩, hby7⟩
              subst hz7
              obtain rfl : x = x7 := FlP.det HC.out HFL.out hfl7
              have hxx : (x == x) = true := by simp
              have YX7 := Lib.hid (bt YX6.out hby7)
              clear hfl7 hby7 k6
              go_wp2_with fail
              refine (lives_any y7 (HT.out.below YX7.out)).mono ?_
              rintro e y8 ⟨z8, rfl, rfl, hby8⟩
              have YX8 := Lib.hid (bt YX7.out hby8)
              clear hby8
              go_wp2
              go_returns
              exact ⟨_, rfl, rfl, YX8.out⟩
    · have d1 : decide ((1 : Int) ≤ (r : Int)) = true := by simp; omega
      have d2 : decide ((r : Int) ≤ 64) = false := by simp; omega
      have HB : Hid (BI false (1 ≤ r ∧ r ≤ 64)) := show _ ↔ _ from ⟨(fun h => by cases h), fun h => absurd h.2 b2⟩
      go_wp2_with fail
      go_loopw [9, 10] (fun ok i wr => ∃ (b : Bool) (k : Nat), k ≤ r ∧ i = .int .i64 (k : Int) ∧ ok = .bool b ∧ BI b ((1 ≤ r ∧ r ≤ 64) ∧ okW us k) ∧ Ext w4 wr) (fun _ i _ => r - (intOf i).toNat)
      case atStart => exact ⟨false, 0, by omega, rfl, rfl, BI.zero HB.out (okW_zero us), Ext.refl _⟩
      case round =>
        obtain ⟨b, k, hk, rfl, rfl, hb, hbw⟩ := hrel
        have HBW := Lib.hid hbw
        have HBB := Lib.hid hb
        clear hbw hb HB
        by_cases hkn : k < r
        · obtain ⟨t, o, rfl, hcell⟩ := (IL4.out.below HBW.out).at_ (by omega)
          have ck := hcell k hkn
          obtain ⟨x, hx⟩ : ∃ x, us.getD k 0 = x := ⟨_, rfl⟩
          rw [hx] at ck
          have HXX := Lib.hid hx
          clear hx hcell
          cases b with
          | false =>
            go_wp2
            go_roundw
            case rel => exact ⟨false, k + 1, by omega, by go_num, rfl, HBB.out.off okW_succ, HBW.out⟩
            case measure => simp [intOf]; omega
          | true =>
            by_cases g1 : 1 ≤ x
            · have g1' : decide ((1 : Int) ≤ x) = true := by simpa using g1
              by_cases g2 : x ≤ 1000000
              · have g2' : decide (x ≤ 1000000) = true := by simpa using g2
                have HQ := Lib.hid (HBB.out.on okW_succ (by rw [HXX.out]; exact ⟨g1, g2⟩))
                go_wp2
                go_roundw
                case rel => exact ⟨true, k + 1, by omega, by go_num, rfl, HQ.out, HBW.out⟩
                case measure => simp [intOf]; omega
              · have g2' : decide (x ≤ 1000000) = false := by simpa using g2
                have HQ := Lib.hid (HBB.out.bad okW_succ (by rw [HXX.out]; exact fun h => g2 h.2))
                go_wp2
                go_roundw
                case rel => exact ⟨false, k + 1, by omega, by go_num, rfl, HQ.out, HBW.out⟩
                case measure => simp [intOf]; omega
            · have g1' : decide ((1 : Int) ≤ x) = false := by simpa using g1
              have HQ := Lib.hid (HBB.out.bad okW_succ (by rw [HXX.out]; exact fun h => g1 h.1))
              go_wp2
              go_roundw
              case rel => exact ⟨false, k + 1, by omega, by go_num, rfl, HQ.out, HBW.out⟩
              case measure => simp [intOf]; omega
        · have hkn2 : k = r := by omega
          subst hkn2
          have HD : Hid (BI b (Wok us)) := show _ ↔ _ from ⟨fun e => by have h := HBB.out.1 e; exact ⟨by rw [HUL.out]; exact h.1, by rw [HUL.out]; exact h.2⟩, fun e => HBB.out.2 ⟨by have := e.1; rw [HUL.out] at this; exact this, by have := e.2; rw [HUL.out] at this; exact this⟩⟩
          have XR := Lib.hid (bt X4.out HBW.out)
          have BXR := Lib.hid (BX4.out.below HBW.out)
          clear HBB
          cases b with
          | false =>
            obtain ⟨rfl, rfl, rfl, rfl, rfl⟩ := HNO.out (fun h => by have := HD.out.2 h; cases this)
            have kX := BXR.out.cells
            simp only [cellsAre, Nat.zero_add, Nat.reduceAdd, and_true] at kX
            clear l7 l7'
            go_wp2_with fail
            refine (few_any A A' n c m d ws ts 10 16 (by omega) (by omega) wr (H.out.below XR.out) (H'.out.below XR.out)).mono ?_
            rintro e y1 ⟨z1, rfl, ⟨vf, vt, rfl, hf, ht⟩, hby1⟩
            obtain ⟨B1, n1, c1, hvf, il1⟩ := hf.il
            subst hvf
            obtain ⟨B2, n2, c2, hvt, sl2⟩ := ht.slp2
            subst hvt
            have ts2 := sl2.ts
            obtain ⟨wf, hwf⟩ : ∃ x, fewF ws 10 = x := ⟨_, rfl⟩
            obtain ⟨tf, htf⟩ : ∃ x, fewT ts 16 = x := ⟨_, rfl⟩
            rw [hwf] at il1
            rw [htf] at ts2
            have l1 := il1.le
            have l1' := il1.cap
            have l2 := ts2.le
            have l2' := ts2.cap
            have I1 := Lib.hid il1
            have T2 := Lib.hid ts2
            have Y1 := Lib.hid (bt XR.out hby1)
            clear hf ht sl2 il1 ts2 hwf htf hby1
            go_upto_region 15 with fail
            have b3 : Blk (y1.alloc (.cells #[.slice B1 n1 c1, .slice B2 n2 c2] TCA)) y1.heap.size TCA #[.slice B1 n1 c1, .slice B2 n2 c2] := Blk.new_ _ _ rfl
            have x3 : Ext y1 (y1.alloc (.cells #[.slice B1 n1 c1, .slice B2 n2 c2] TCA)) := Ext.allocR _ _
            refine wp_world (fun W3 => Blk W3 y1.heap.size TCA #[.slice B1 n1 c1, .slice B2 n2 c2] ∧ Ext y1 W3) ⟨b3, x3⟩ ?_
            clear b3 x3
            rintro Y3 ⟨b3, x3⟩
            obtain ⟨g, hg⟩ : ∃ g, y1.heap.size = g := ⟨_, rfl⟩
            rw [hg] at b3 ⊢
            have B3 := Lib.hid b3
            have X3 := Lib.hid x3
            have YX3 := Lib.hid (bt Y1.out x3)
            have c3 := b3.cells
            simp only [cellsAre, Nat.zero_add, Nat.reduceAdd, and_true] at c3
            clear b3 x3 hg
            go_wp2_with fail
            refine (rfloor_any B1 B2 n1 c1 n2 c2 wf tf Y3 (I1.out.below X3.out) (T2.out.below X3.out)).mono ?_
            rintro e y4 ⟨z4, rfl, hz4, hby4⟩
            have XB4 := Lib.hid (bt X3.out hby4)
            have YX4 := Lib.hid (bt YX3.out hby4)
            have B4 := Lib.hid (B3.out.below hby4)
            have k4 := B4.out.cells
            simp only [cellsAre, Nat.zero_add, Nat.reduceAdd, and_true] at k4
            clear c3 B3 hby4
            by_cases hc : Cv wf tf
            rotate_left
            · have hz4' := hz4.2 hc
              subst hz4'
              have HC := Lib.hid hc
              clear hz4 hc
              go_wp2_with fail
              refine (valid_any B1 B2 n1 c1 n2 c2 wf tf y4 (I1.out.below XB4.out) (T2.out.below XB4.out)).mono ?_
              rintro e y6 ⟨z6, rfl, hz6, hby6⟩
              rw [cvB_f HC.out] at hz6
              subst hz6
              have YX6 := Lib.hid (bt YX4.out hby6)
              clear hby6 k4
              go_wp2_with fail
              refine (lives_any y6 (HT.out.below YX6.out)).mono ?_
              rintro e y7 ⟨z7, rfl, rfl, hby7⟩
              have YX7 := Lib.hid (bt YX6.out hby7)
              clear hby7
              go_wp2
              go_returns
              exact ⟨_, rfl, rfl, YX7.out⟩
            · obtain ⟨x, hz4', hfl⟩ := hz4.1 hc
              subst hz4'
              have HC := Lib.hid hc
              have HFL := Lib.hid hfl
              clear hz4 hc hfl
              go_wp2_with fail
              refine (valid_any B1 B2 n1 c1 n2 c2 wf tf y4 (I1.out.below XB4.out) (T2.out.below XB4.out)).mono ?_
              rintro e y6 ⟨z6, rfl, hz6, hby6⟩
              rw [cvB_t HC.out] at hz6
              subst hz6
              have XB6 := Lib.hid (bt XB4.out hby6)
              have YX6 := Lib.hid (bt YX4.out hby6)
              have k6 := (B4.out.below hby6).cells
              simp only [cellsAre, Nat.zero_add, Nat.reduceAdd, and_true] at k6
              clear hby6 k4
              go_wp2_with fail
              refine (zfloor_any B1 B2 n1 c1 n2 c2 wf tf y6 (I1.out.below XB6.out) (T2.out.below XB6.out) HC.out).mono ?_
              rintro e y7 ⟨z7, rfl, ⟨x7, hz7, hfl7⟩, hby7⟩
              subst hz7
              obtain rfl : x = x7 := FlP.det HC.out HFL.out hfl7
              have hxx : (x == x) = true := by simp
              have YX7 := Lib.hid (bt YX6.out hby7)
              clear hfl7 hby7 k6
              go_wp2_with fail
              refine (lives_any y7 (HT.out.below YX7.out)).mono ?_
              rintro e y8 ⟨z8, rfl, rfl, hby8⟩
              have YX8 := Lib.hid (bt YX7.out hby8)
              clear hby8
              go_wp2
              go_returns
              exact ⟨_, rfl, rfl, YX8.out⟩
          | true =>
            have HW := Lib.hid (HD.out.1 rfl)
            obtain ⟨e1, rfl, b7, ls, hil7, hr7⟩ := HOK.out HW.out
            rw [HUL.out] at e1
            subst e1
            have IL7 := Lib.hid (hil7.below HBW.out)
            have HR7 := Lib.hid hr7
            clear hil7 hr7
            go_wp2_with fail
            refine (zcodes_any A6 n7 c6 us wr (IL4.out.below HBW.out) HW.out).mono ?_
            rintro e w5 ⟨v5, rfl, ⟨A8, c8, b8, ls8, S8, rfl, hil8, hr8⟩, hb5⟩
            obtain ⟨_, e2, e3⟩ := HRk.det HW.out HR7.out (by rw [HUL.out]; exact hr8)
            subst e2 e3
            have l8 := hil8.le
            have l8' := hil8.cap
            have IL8 := Lib.hid hil8
            have X5 := Lib.hid (bt XR.out hb5)
            have B5 := Lib.hid (BXR.out.below hb5)
            have IL75 := Lib.hid (IL7.out.below hb5)
            have kX := B5.out.cells
            simp only [cellsAre, Nat.zero_add, Nat.reduceAdd, and_true] at kX
            clear hil8 hr8 hb5
            go_wp2_with fail
            refine (lsame_any A7 A8 n7 c7 n7 c8 ls ls w5 IL75.out IL8.out).mono ?_
            rintro e w6 ⟨v6, rfl, rfl, hb6⟩
            rw [sameB_t rfl]
            have X6 := Lib.hid (bt X5.out hb6)
            have kX6 := (B5.out.below hb6).cells
            simp only [cellsAre, Nat.zero_add, Nat.reduceAdd, and_true] at kX6
            have hSS : (S == S) = true := by simp
            clear hb6 kX
            go_wp2_with fail
            refine (few_any A A' n c m d ws ts 10 16 (by omega) (by omega) w6 (H.out.below X6.out) (H'.out.below X6.out)).mono ?_
            rintro e y1 ⟨z1, rfl, ⟨vf, vt, rfl, hf, ht⟩, hby1⟩
            obtain ⟨B1, n1, c1, hvf, il1⟩ := hf.il
            subst hvf
            obtain ⟨B2, n2, c2, hvt, sl2⟩ := ht.slp2
            subst hvt
            have ts2 := sl2.ts
            obtain ⟨wf, hwf⟩ : ∃ x, fewF ws 10 = x := ⟨_, rfl⟩
            obtain ⟨tf, htf⟩ : ∃ x, fewT ts 16 = x := ⟨_, rfl⟩
            rw [hwf] at il1
            rw [htf] at ts2
            have l1 := il1.le
            have l1' := il1.cap
            have l2 := ts2.le
            have l2' := ts2.cap
            have I1 := Lib.hid il1
            have T2 := Lib.hid ts2
            have Y1 := Lib.hid (bt X6.out hby1)
            clear hf ht sl2 il1 ts2 hwf htf hby1
            go_upto_region 15 with fail
            have b3 : Blk (y1.alloc (.cells #[.slice B1 n1 c1, .slice B2 n2 c2] TCA)) y1.heap.size TCA #[.slice B1 n1 c1, .slice B2 n2 c2] := Blk.new_ _ _ rfl
            have x3 : Ext y1 (y1.alloc (.cells #[.slice B1 n1 c1, .slice B2 n2 c2] TCA)) := Ext.allocR _ _
            refine wp_world (fun W3 => Blk W3 y1.heap.size TCA #[.slice B1 n1 c1, .slice B2 n2 c2] ∧ Ext y1 W3) ⟨b3, x3⟩ ?_
            clear b3 x3
            rintro Y3 ⟨b3, x3⟩
            obtain ⟨g, hg⟩ : ∃ g, y1.heap.size = g := ⟨_, rfl⟩
            rw [hg] at b3 ⊢
            have B3 := Lib.hid b3
            have X3 := Lib.hid x3
            have YX3 := Lib.hid (bt Y1.out x3)
            have c3 := b3.cells
            simp only [cellsAre, Nat.zero_add, Nat.reduceAdd, and_true] at c3
            clear b3 x3 hg
            go_wp2_with fail
            refine (rfloor_any B1 B2 n1 c1 n2 c2 wf tf Y3 (I1.out.below X3.out) (T2.out.below X3.out)).mono ?_
            rintro e y4 ⟨z4, rfl, hz4, hby4⟩
            have XB4 := Lib.hid (bt X3.out hby4)
            have YX4 := Lib.hid (bt YX3.out hby4)
            have B4 := Lib.hid (B3.out.below hby4)
            have k4 := B4.out.cells
            simp only [cellsAre, Nat.zero_add, Nat.reduceAdd, and_true] at k4
            clear c3 B3 hby4
            by_cases hc : Cv wf tf
            rotate_left
            · have hz4' := hz4.2 hc
              subst hz4'
              have HC := Lib.hid hc
              clear hz4 hc
              go_wp2_with fail
              refine (valid_any B1 B2 n1 c1 n2 c2 wf tf y4 (I1.out.below XB4.out) (T2.out.below XB4.out)).mono ?_
              rintro e y6 ⟨z6, rfl, hz6, hby6⟩
              rw [cvB_f HC.out] at hz6
              subst hz6
              have YX6 := Lib.hid (bt YX4.out hby6)
              clear hby6 k4
              go_wp2_with fail
              refine (lives_any y6 (HT.out.below YX6.out)).mono ?_
              rintro e y7 ⟨z7, rfl, rfl, hby7⟩
              have YX7 := Lib.hid (bt YX6.out hby7)
              clear hby7
              go_wp2
              go_returns
              exact ⟨_, rfl, rfl, YX7.out⟩
            · obtain ⟨x, hz4', hfl⟩ := hz4.1 hc
              subst hz4'
              have HC := Lib.hid hc
              have HFL := Lib.hid hfl
              clear hz4 hc hfl
              go_wp2_with fail
              refine (valid_any B1 B2 n1 c1 n2 c2 wf tf y4 (I1.out.below XB4.out) (T2.out.below XB4.out)).mono ?_
              rintro e y6 ⟨z6, rfl, hz6, hby6⟩
              rw [cvB_t HC.out] at hz6
              subst hz6
              have XB6 := Lib.hid (bt XB4.out hby6)
              have YX6 := Lib.hid (bt YX4.out hby6)
              have k6 := (B4.out.below hby6).cells
              simp only [cellsAre, Nat.zero_add, Nat.reduceAdd, and_true] at k6
              clear hby6 k4
              go_wp2_with fail
              refine (zfloor_any B1 B2 n1 c1 n2 c2 wf tf y6 (I1.out.below XB6.out) (T2.out.below XB6.out) HC.out).mono ?_
              rintro e y7 ⟨z7, rfl, ⟨x7, hz7, hfl7⟩, hby7⟩
              subst hz7
              obtain rfl : x = x7 := FlP.det HC.out HFL.out hfl7
              have hxx : (x == x) = true := by simp
              have YX7 := Lib.hid (bt YX6.out hby7)
              clear hfl7 hby7 k6
              go_wp2_with fail
              refine (lives_any y7 (HT.out.below YX7.out)).mono ?_
              rintro e y8 ⟨z8, rfl, rfl, hby8⟩
              have YX8 := Lib.hid (bt YX7.out hby8)
              clear hby8
              go_wp2
              go_returns
              exact ⟨_, rfl, rfl, YX8.out⟩
  · have d1 : decide ((1 : Int) ≤ (r : Int)) = false := by simp; omega
    have HB : Hid (BI false (1 ≤ r ∧ r ≤ 64)) := show _ ↔ _ from ⟨(fun h => by cases h), fun h => absurd h.1 b1⟩
    go_wp2_with fail
    go_loopw [9, 10] (fun ok i wr => ∃ (b : Bool) (k : Nat), k ≤ r ∧ i = .int .i64 (k : Int) ∧ ok = .bool b ∧ BI b ((1 ≤ r ∧ r ≤ 64) ∧ okW us k) ∧ Ext w4 wr) (fun _ i _ => r - (intOf i).toNat)
    case atStart => exact ⟨false, 0, by omega, rfl, rfl, BI.zero HB.out (okW_zero us), Ext.refl _⟩
    case round =>
      obtain ⟨b, k, hk, rfl, rfl, hb, hbw⟩ := hrel
      have HBW := Lib.hid hbw
      have HBB := Lib.hid hb
      clear hbw hb HB
      by_cases hkn : k < r
      · exact absurd hkn (by omega)
      · have hkn2 : k = r := by omega
        subst hkn2
        have HD : Hid (BI b (Wok us)) := show _ ↔ _ from ⟨fun e => by have h := HBB.out.1 e; exact ⟨by rw [HUL.out]; exact h.1, by rw [HUL.out]; exact h.2⟩, fun e => HBB.out.2 ⟨by have := e.1; rw [HUL.out] at this; exact this, by have := e.2; rw [HUL.out] at this; exact this⟩⟩
        have XR := Lib.hid (bt X4.out HBW.out)
        have BXR := Lib.hid (BX4.out.below HBW.out)
        clear HBB
        cases b with
        | false =>
          obtain ⟨rfl, rfl, rfl, rfl, rfl⟩ := HNO.out (fun h => by have := HD.out.2 h; cases this)
          have kX := BXR.out.cells
          simp only [cellsAre, Nat.zero_add, Nat.reduceAdd, and_true] at kX
          clear l7 l7'
          go_wp2_with fail
          refine (few_any A A' n c m d ws ts 10 16 (by omega) (by omega) wr (H.out.below XR.out) (H'.out.below XR.out)).mono ?_
          rintro e y1 ⟨z1, rfl, ⟨vf, vt, rfl, hf, ht⟩, hby1⟩
          obtain ⟨B1, n1, c1, hvf, il1⟩ := hf.il
          subst hvf
          obtain ⟨B2, n2, c2, hvt, sl2⟩ := ht.slp2
          subst hvt
          have ts2 := sl2.ts
          obtain ⟨wf, hwf⟩ : ∃ x, fewF ws 10 = x := ⟨_, rfl⟩
          obtain ⟨tf, htf⟩ : ∃ x, fewT ts 16 = x := ⟨_, rfl⟩
          rw [hwf] at il1
          rw [htf] at ts2
          have l1 := il1.le
          have l1' := il1.cap
          have l2 := ts2.le
          have l2' := ts2.cap
          have I1 := Lib.hid il1
          have T2 := Lib.hid ts2
          have Y1 := Lib.hid (bt XR.out hby1)
          clear hf ht sl2 il1 ts2 hwf htf hby1
          go_upto_region 15 with fail
          have b3 : Blk (y1.alloc (.cells #[.slice B1 n1 c1, .slice B2 n2 c2] TCA)) y1.heap.size TCA #[.slice B1 n1 c1, .slice B2 n2 c2] := Blk.new_ _ _ rfl
          have x3 : Ext y1 (y1.alloc (.cells #[.slice B1 n1 c1, .slice B2 n2 c2] TCA)) := Ext.allocR _ _
          refine wp_world (fun W3 => Blk W3 y1.heap.size TCA #[.slice B1 n1 c1, .slice B2 n2 c2] ∧ Ext y1 W3) ⟨b3, x3⟩ ?_
          clear b3 x3
          rintro Y3 ⟨b3, x3⟩
          obtain ⟨g, hg⟩ : ∃ g, y1.heap.size = g := ⟨_, rfl⟩
          rw [hg] at b3 ⊢
          have B3 := Lib.hid b3
          have X3 := Lib.hid x3
          have YX3 := Lib.hid (bt Y1.out x3)
          have c3 := b3.cells
          simp only [cellsAre, Nat.zero_add, Nat.reduceAdd, and_true] at c3
          clear b3 x3 hg
          go_wp2_with fail
          refine (rfloor_any B1 B2 n1 c1 n2 c2 wf tf Y3 (I1.out.below X3.out) (T2.out.below X3.out)).mono ?_
          rintro e y4 ⟨z4, rfl, hz4, hby4⟩
          have XB4 := Lib.hid (bt X3.out hby4)
          have YX4 := Lib.hid (bt YX3.out hby4)
          have B4 := Lib.hid (B3.out.below hby4)
          have k4 := B4.out.cells
          simp only [cellsAre, Nat.zero_add, Nat.reduceAdd, and_true] at k4
          clear c3 B3 hby4
          by_cases hc : Cv wf tf
          rotate_left
          · have hz4' := hz4.2 hc
            subst hz4'
            have HC := Lib.hid hc
            clear hz4 hc
            go_wp2_with fail
            refine (valid_any B1 B2 n1 c1 n2 c2 wf tf y4 (I1.out.below XB4.out) (T2.out.below XB4.out)).mono ?_
            rintro e y6 ⟨z6, rfl, hz6, hby6⟩
            rw [cvB_f HC.out] at hz6
            subst hz6
            have YX6 := Lib.hid (bt YX4.out hby6)
            clear hby6 k4
            go_wp2_with fail
            refine (lives_any y6 (HT.out.below YX6.out)).mono ?_
            rintro e y7 ⟨z7, rfl, rfl, hby7⟩
            have YX7 := Lib.hid (bt YX6.out hby7)
            clear hby7
            go_wp2
            go_returns
            exact ⟨_, rfl, rfl, YX7.out⟩
          · obtain ⟨x, hz4', hfl⟩ := hz4.1 hc
            subst hz4'
            have HC := Lib.hid hc
            have HFL := Lib.hid hfl
            clear hz4 hc hfl
            go_wp2_with fail
            refine (valid_any B1 B2 n1 c1 n2 c2 wf tf y4 (I1.out.below XB4.out) (T2.out.below XB4.out)).mono ?_
            rintro e y6 ⟨z6, rfl, hz6, hby6⟩
            rw [cvB_t HC.out] at hz6
            subst hz6
            have XB6 := Lib.hid (bt XB4.out hby6)
            have YX6 := Lib.hid (bt YX4.out hby6)
            have k6 := (B4.out.below hby6).cells
            simp only [cellsAre, Nat.zero_add, Nat.reduceAdd, and_true] at k6
            clear hby6 k4
            go_wp2_with fail
            refine (zfloor_any B1 B2 n1 c1 n2 c2 wf tf y6 (I1.out.below XB6.out) (T2.out.below XB6.out) HC.out).mono ?_
            rintro e y7 ⟨z7, rfl, ⟨x7, hz7, hfl7⟩, hby7⟩
            subst hz7
            obtain rfl : x = x7 := FlP.det HC.out HFL.out hfl7
            have hxx : (x == x) = true := by simp
            have YX7 := Lib.hid (bt YX6.out hby7)
            clear hfl7 hby7 k6
            go_wp2_with fail
            refine (lives_any y7 (HT.out.below YX7.out)).mono ?_
            rintro e y8 ⟨z8, rfl, rfl, hby8⟩
            have YX8 := Lib.hid (bt YX7.out hby8)
            clear hby8
            go_wp2
            go_returns
            exact ⟨_, rfl, rfl, YX8.out⟩
        | true =>
          have HW := Lib.hid (HD.out.1 rfl)
          obtain ⟨e1, rfl, b7, ls, hil7, hr7⟩ := HOK.out HW.out
          rw [HUL.out] at e1
          subst e1
          have IL7 := Lib.hid (hil7.below HBW.out)
          have HR7 := Lib.hid hr7
          clear hil7 hr7
          go_wp2_with fail
          refine (zcodes_any A6 n7 c6 us wr (IL4.out.below HBW.out) HW.out).mono ?_
          rintro e w5 ⟨v5, rfl, ⟨A8, c8, b8, ls8, S8, rfl, hil8, hr8⟩, hb5⟩
          obtain ⟨_, e2, e3⟩ := HRk.det HW.out HR7.out (by rw [HUL.out]; exact hr8)
          subst e2 e3
          have l8 := hil8.le
          have l8' := hil8.cap
          have IL8 := Lib.hid hil8
          have X5 := Lib.hid (bt XR.out hb5)
          have B5 := Lib.hid (BXR.out.below hb5)
          have IL75 := Lib.hid (IL7.out.below hb5)
          have kX := B5.out.cells
          simp only [cellsAre, Nat.zero_add, Nat.reduceAdd, and_true] at kX
          clear hil8 hr8 hb5
          go_wp2_with fail
          refine (lsame_any A7 A8 n7 c7 n7 c8 ls ls w5 IL75.out IL8.out).mono ?_
          rintro e w6 ⟨v6, rfl, rfl, hb6⟩
          rw [sameB_t rfl]
          have X6 := Lib.hid (bt X5.out hb6)
          have kX6 := (B5.out.below hb6).cells
          simp only [cellsAre, Nat.zero_add, Nat.reduceAdd, and_true] at kX6
          have hSS : (S == S) = true := by simp
          clear hb6 kX
          go_wp2_with fail
          refine (few_any A A' n c m d ws ts 10 16 (by omega) (by omega) w6 (H.out.below X6.out) (H'.out.below X6.out)).mono ?_
          rintro e y1 ⟨z1, rfl, ⟨vf, vt, rfl, hf, ht⟩, hby1⟩
          obtain ⟨B1, n1, c1, hvf, il1⟩ := hf.il
          subst hvf
          obtain ⟨B2, n2, c2, hvt, sl2⟩ := ht.slp2
          subst hvt
          have ts2 := sl2.ts
          obtain ⟨wf, hwf⟩ : ∃ x, fewF ws 10 = x := ⟨_, rfl⟩
          obtain ⟨tf, htf⟩ : ∃ x, fewT ts 16 = x := ⟨_, rfl⟩
          rw [hwf] at il1
          rw [htf] at ts2
          have l1 := il1.le
          have l1' := il1.cap
          have l2 := ts2.le
          have l2' := ts2.cap
          have I1 := Lib.hid il1
          have T2 := Lib.hid ts2
          have Y1 := Lib.hid (bt X6.out hby1)
          clear hf ht sl2 il1 ts2 hwf htf hby1
          go_upto_region 15 with fail
          have b3 : Blk (y1.alloc (.cells #[.slice B1 n1 c1, .slice B2 n2 c2] TCA)) y1.heap.size TCA #[.slice B1 n1 c1, .slice B2 n2 c2] := Blk.new_ _ _ rfl
          have x3 : Ext y1 (y1.alloc (.cells #[.slice B1 n1 c1, .slice B2 n2 c2] TCA)) := Ext.allocR _ _
          refine wp_world (fun W3 => Blk W3 y1.heap.size TCA #[.slice B1 n1 c1, .slice B2 n2 c2] ∧ Ext y1 W3) ⟨b3, x3⟩ ?_
          clear b3 x3
          rintro Y3 ⟨b3, x3⟩
          obtain ⟨g, hg⟩ : ∃ g, y1.heap.size = g := ⟨_, rfl⟩
          rw [hg] at b3 ⊢
          have B3 := Lib.hid b3
          have X3 := Lib.hid x3
          have YX3 := Lib.hid (bt Y1.out x3)
          have c3 := b3.cells
          simp only [cellsAre, Nat.zero_add, Nat.reduceAdd, and_true] at c3
          clear b3 x3 hg
          go_wp2_with fail
          refine (rfloor_any B1 B2 n1 c1 n2 c2 wf tf Y3 (I1.out.below X3.out) (T2.out.below X3.out)).mono ?_
          rintro e y4 ⟨z4, rfl, hz4, hby4⟩
          have XB4 := Lib.hid (bt X3.out hby4)
          have YX4 := Lib.hid (bt YX3.out hby4)
          have B4 := Lib.hid (B3.out.below hby4)
          have k4 := B4.out.cells
          simp only [cellsAre, Nat.zero_add, Nat.reduceAdd, and_true] at k4
          clear c3 B3 hby4
          by_cases hc : Cv wf tf
          rotate_left
          · have hz4' := hz4.2 hc
            subst hz4'
            have HC := Lib.hid hc
            clear hz4 hc
            go_wp2_with fail
            refine (valid_any B1 B2 n1 c1 n2 c2 wf tf y4 (I1.out.below XB4.out) (T2.out.below XB4.out)).mono ?_
            rintro e y6 ⟨z6, rfl, hz6, hby6⟩
            rw [cvB_f HC.out] at hz6
            subst hz6
            have YX6 := Lib.hid (bt YX4.out hby6)
            clear hby6 k4
            go_wp2_with fail
            refine (lives_any y6 (HT.out.below YX6.out)).mono ?_
            rintro e y7 ⟨z7, rfl, rfl, hby7⟩
            have YX7 := Lib.hid (bt YX6.out hby7)
            clear hby7
            go_wp2
            go_returns
            exact ⟨_, rfl, rfl, YX7.out⟩
          · obtain ⟨x, hz4', hfl⟩ := hz4.1 hc
            subst hz4'
            have HC := Lib.hid hc
            have HFL := Lib.hid hfl
            clear hz4 hc hfl
            go_wp2_with fail
            refine (valid_any B1 B2 n1 c1 n2 c2 wf tf y4 (I1.out.below XB4.out) (T2.out.below XB4.out)).mono ?_
            rintro e y6 ⟨z6, rfl, hz6, hby6⟩
            rw [cvB_t HC.out] at hz6
            subst hz6
            have XB6 := Lib.hid (bt XB4.out hby6)
            have YX6 := Lib.hid (bt YX4.out hby6)
            have k6 := (B4.out.below hby6).cells
            simp only [cellsAre, Nat.zero_add, Nat.reduceAdd, and_true] at k6
            clear hby6 k4
            go_wp2_with fail
            refine (zfloor_any B1 B2 n1 c1 n2 c2 wf tf y6 (I1.out.below XB6.out) (T2.out.below XB6.out) HC.out).mono ?_
            rintro e y7 ⟨z7, rfl, ⟨x7, hz7, hfl7⟩, hby7⟩
            subst hz7
            obtain rfl : x = x7 := FlP.det HC.out HFL.out hfl7
            have hxx : (x == x) = true := by simp
            have YX7 := Lib.hid (bt YX6.out hby7)
            clear hfl7 hby7 k6
            go_wp2_with fail
            refine (lives_any y7 (HT.out.below YX7.out)).mono ?_
            rintro e y8 ⟨z8, rfl, rfl, hby8⟩
            have YX8 := Lib.hid (bt YX7.out hby8)
            clear hby8
            go_wp2
            go_returns
            exact ⟨_, rfl, rfl, YX8.out⟩
end Go.Proofs.Tb
