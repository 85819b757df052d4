/- ProbeMore returns true. -/
import Derived.Test.YtcjddfhhofoidaaDoorMob
import Derived.Test.YtcjddfhhofoidaaDoorRc
import Derived.Deep.CutBlock
import Derived.Test.YtcjddfhhofoidaaDoorApx
set_option linter.unusedVariables false
set_option linter.unusedSimpArgs false
namespace Go.Proofs.Tb
open Go.RowKit
attribute [local go_sem] cell_set_same

set_option maxHeartbeats 6400000 in
set_option maxRecDepth 100000 in
theorem more_any (A A' A3 : Option Addr) (n c m d q d3 : Nat) (y : Int) (ws : List Int) (ts : List Tt) (xs : List Int) (w : World) (h : Il w A n c ws) (h' : Ts w A' m d ts) (h3 : Il w A3 q d3 xs) (ht : Tab w) :
    Calls Tryd.prog 6 #[.agg #[.slice A n c, .slice A' m d], .int .i64 y, .slice A3 q d3] w (Ret (fun v _ => v = .bool true) w) := by
  have q1 := h3.le
  have q2 := h3.cap
  have H := Lib.hid h
  have H' := Lib.hid h'
  have H3 := Lib.hid h3
  have HT := Lib.hid ht
  clear h h' h3 ht
  go_enter Tryd.func6, Tryd.ntmps6
  go_wp2_with fail
  have x0 : Ext w (w.alloc (.cells #[.slice A n c, .slice A' m d] TCA)) := Ext.allocR _ _
  refine (few_any A A' n c m d ws ts 8 15 (by omega) (by omega) _ (H.out.below x0) (H'.out.below x0)).mono ?_
  rintro e w1 ⟨v1, rfl, ⟨vf, vt, rfl, hf, ht⟩, hb1⟩
  obtain ⟨A1, n1, c1, hvf, il1⟩ := hf.il
  subst hvf
  obtain ⟨A2, n2, c2, hvt, sl2⟩ := ht.slp2
  subst hvt
  have ts2 := sl2.ts
  have SL2 := Lib.hid sl2
  obtain ⟨wf, hwf⟩ : ∃ x, fewF ws 8 = x := ⟨_, rfl⟩
  obtain ⟨tf, htf⟩ : ∃ x, fewT ts 15 = x := ⟨_, rfl⟩
  rw [hwf] at il1
  rw [htf] at ts2 SL2
  have l1 := il1.le
  have l1' := il1.cap
  have l2 := ts2.le
  have l2' := ts2.cap
  have HL1 := Lib.hid il1.len
  have HL2 := Lib.hid ts2.len
  have I1 := Lib.hid il1
  have T2 := Lib.hid ts2
  have HB1 := Lib.hid (bt x0 hb1)
  clear hf ht sl2 il1 ts2 hwf htf x0 hb1
  go_upto_region 2 with fail
  have b3 : Blk (w1.alloc (.cells #[.slice A1 n1 c1, .slice A2 n2 c2] TCA)) w1.heap.size TCA #[.slice A1 n1 c1, .slice A2 n2 c2] := Blk.new_ _ _ rfl
  have x3 : Ext w1 (w1.alloc (.cells #[.slice A1 n1 c1, .slice A2 n2 c2] TCA)) := Ext.allocR _ _
  refine wp_world (fun W3 => Blk W3 w1.heap.size TCA #[.slice A1 n1 c1, .slice A2 n2 c2] ∧ Ext w1 W3) ⟨b3, x3⟩ ?_
  clear b3 x3
  rintro W3 ⟨b3, x3⟩
  obtain ⟨g, hg⟩ : ∃ g, w1.heap.size = g := ⟨_, rfl⟩
  rw [hg] at b3 ⊢
  have B3 := Lib.hid b3
  have X3 := Lib.hid x3
  have c3 := b3.cells
  simp only [cellsAre, Nat.zero_add, Nat.reduceAdd, and_true] at c3
  clear b3 x3 hg
  go_wp2_with fail
  refine (valid_any A1 A2 n1 c1 n2 c2 wf tf W3 (I1.out.below X3.out) (T2.out.below X3.out)).mono ?_
  rintro e w4 ⟨v4, rfl, hv4, hb4⟩
  have X4 := Lib.hid (bt X3.out hb4)
  have B4 := Lib.hid (B3.out.below hb4)
  have c4 := B4.out.cells
  simp only [cellsAre, Nat.zero_add, Nat.reduceAdd, and_true] at c4
  clear hb4 c3 B3
  by_cases hc : Cv wf tf
  rotate_left
  · rw [cvB_f hc] at hv4
    subst hv4
    clear hc
    go_wp2_with fail
    refine (lives_any w4 (HT.out.below (bt HB1.out X4.out))).mono ?_
    rintro e w6 ⟨z6, rfl, rfl, b6⟩
    have X6 := Lib.hid (bt (bt HB1.out X4.out) b6)
    clear b6 c4
    go_wp2
    go_returns
    exact ⟨_, rfl, rfl, X6.out⟩
  · rw [cvB_t hc] at hv4
    subst hv4
    have HC := Lib.hid hc
    by_cases h16 : n2 = 16
    · subst h16
      clear hc
      go_wp2_with fail
      refine (lives_any w4 (HT.out.below (bt HB1.out X4.out))).mono ?_
      rintro e w6 ⟨z6, rfl, rfl, b6⟩
      have X6 := Lib.hid (bt (bt HB1.out X4.out) b6)
      clear b6 c4
      go_wp2
      go_returns
      exact ⟨_, rfl, rfl, X6.out⟩
    · have h15 : n2 ≤ 15 := by have h1 := hc.1.2.2; have h2 := HL2.out; omega
      have hn10 : n1 ≤ 10 := by have h1 := hc.len10; have h2 := HL1.out; omega
      have hn1 : 1 ≤ n1 := by have h1 := hc.1.1; have h2 := HL1.out; omega
      have h16' : (n2 : Int) ≠ 16 := by omega
      clear hc
      go_wp2_with fail
      refine (zapart_any A1 A2 n1 c1 n2 c2 wf tf w4 (I1.out.below X4.out) (T2.out.below X4.out) (by omega) (by omega)).mono ?_
      rintro e w5 ⟨v5, rfl, ⟨b1, hs5⟩, hb5⟩
      obtain ⟨A8, c8, rfl, gs8⟩ := hs5.gs
      obtain ⟨cs, hcs⟩ : ∃ cs, clsT n1 tf = cs := ⟨_, rfl⟩
      rw [hcs] at gs8 ⊢
      obtain ⟨L, hL⟩ : ∃ L, cs.length = L := ⟨_, rfl⟩
      rw [hL] at gs8 ⊢
      have hL1 : 1 ≤ L := by rw [← hL, ← hcs]; exact clsT_pos tf hn1
      have hLn : L ≤ n1 := by rw [← hL, ← hcs]; exact apC_len _ _
      have l8 := gs8.le
      have l8' := gs8.cap
      have X5 := Lib.hid (bt X4.out hb5)
      have B5 := Lib.hid (B4.out.below hb5)
      have G8 := Lib.hid gs8
      have HCS := Lib.hid hcs
      have HLL := Lib.hid hL
      have c5 := B5.out.cells
      simp only [cellsAre, Nat.zero_add, Nat.reduceAdd, and_true] at c5
      have hmk := make_B n1 (by omega) w5
      clear hs5 gs8 hcs hL hb5 c4 B4
      go_upto_block 0 with fail
      have hb6 : BB (w5.alloc (.cells (bc (List.replicate n1 false)).toArray TBO)) w5.heap.size (List.replicate n1 false) := Blk.new_ _ _ rfl
      have hx6 : Ext w5 (w5.alloc (.cells (bc (List.replicate n1 false)).toArray TBO)) := Ext.allocR _ _
      refine wp_world (fun W => BB W w5.heap.size (List.replicate n1 false) ∧ Ext w5 W) ⟨hb6, hx6⟩ ?_
      clear hb6 hx6 hmk c5
      rintro W6 ⟨hb6, hx6⟩
      obtain ⟨g9, hg9⟩ : ∃ g, w5.heap.size = g := ⟨_, rfl⟩
      rw [hg9] at hb6 ⊢
      have HG9 := Lib.hid hg9
      clear hg9
      go_cut [] (fun wx => ∃ bs, BB wx g9 bs ∧ mkd n1 tf bs ∧ Ext w5 wx)
      case first =>
        go_wp2_with fail
        go_loopw [10] (fun i wr => ∃ (k : Nat) (bs : List Bool), k ≤ q ∧ k ≤ 12 ∧ i = .int .i64 (k : Int) ∧ BB wr g9 bs ∧ mkd n1 tf bs ∧ Ext w5 wr) (fun i _ => q - (intOf i).toNat)
        case atStart => exact ⟨0, _, by omega, by omega, rfl, hb6, mkd_zero _ _, hx6⟩
        case round =>
          clear hb6 hx6
          obtain ⟨k, bs, hk, hk12, rfl, hb, hmk, hx⟩ := hrel
          have HB := Lib.hid hb
          have HMK := Lib.hid hmk
          have HX := Lib.hid hx
          by_cases hlt : k < q ∧ k < 12
          · have pk : (k : Int) < (q : Int) := by omega
            have pk12 : (k : Int) < 12 := by omega
            obtain ⟨b3, o3, rfl, hcc⟩ := (H3.out.below (bt HB1.out (bt X5.out hx))).at_ (by omega)
            have ck := hcc k hlt.1
            obtain ⟨x, hxx⟩ : ∃ x, xs.getD k 0 = x := ⟨_, rfl⟩
            rw [hxx] at ck
            have hL0 : (L : Int) ≠ 0 := by omega
            clear hcc hxx hb hmk hx
            go_upto_region 10 with fail
            obtain ⟨e, heL, hee⟩ := cyc x L hL1 (by omega)
            rw [hee]
            have peL : (e : Int) < (L : Int) := by omega
            obtain ⟨b8, o8, rfl, hc8⟩ := G8.out.at_ (by omega)
            obtain ⟨A7, n7, c7, ck7, il7⟩ := hc8 e heL
            obtain ⟨cl, hcl⟩ : ∃ cl, cs.getD e [] = cl := ⟨_, rfl⟩
            rw [hcl] at il7
            have hmem : cl ∈ clsT n1 tf := by
              rw [HCS.out, ← hcl]
              have : e < cs.length := by rw [HLL.out]; exact heL
              rw [show cs.getD e [] = cs[e] by simp [List.getD, this]]
              exact List.getElem_mem this
            have HM := Lib.hid hmem
            have CK7 := Lib.hid ck7
            have I7 := Lib.hid il7
            have l7 := il7.le
            have l7' := il7.cap
            have HL7 := Lib.hid il7.len
            obtain ⟨W7, hW7⟩ : ∃ W, W = wr := ⟨_, rfl⟩
            subst hW7
            clear hc8 hcl hmem il7 ck7 ck hee
            go_wp2_with fail
            go_loopw [12] (fun i wr => ∃ j : Nat, j ≤ n7 ∧ i = .int .i64 (j : Int) ∧ BB wr g9 (setT bs (cl.take j)) ∧ Ext w5 wr) (fun i _ => n7 - (intOf i).toNat)
            case atStart => exact ⟨0, by omega, rfl, HB.out, HX.out⟩
            case round =>
              clear HB HX
              obtain ⟨j, hj, rfl, hb, hx⟩ := hrel
              have HB := Lib.hid hb
              have HX := Lib.hid hx
              have ck8 := Ext.cell hx CK7.out
              by_cases hj7 : j < n7
              · have pj : (j : Int) < (n7 : Int) := by omega
                obtain ⟨b7, o7, rfl, hc7⟩ := (I7.out.below hx).at_ (by omega)
                have ck9 := hc7 j hj7
                obtain ⟨z, hz⟩ : ∃ z, cl.getD j 0 = z := ⟨_, rfl⟩
                rw [hz] at ck9
                have hjl : j < cl.length := by rw [HL7.out]; exact hj7
                have hz2 : cl[j] = z := by rw [← hz]; simp [List.getD, hjl]
                have hzr := (clsT_ok n1 tf).rng HM.out (i := z) (by rw [← hz2]; exact List.getElem_mem hjl)
                obtain ⟨zn, rfl⟩ := Int.eq_ofNat_of_zero_le hzr.1
                have hzn : zn < n1 := by omega
                have pzn : (zn : Int) < (n1 : Int) := by omega
                have hln : (setT bs (cl.take j)).length = n1 := by rw [setT_len]; exact HMK.out.1
                have c9 := hb.cell (j := zn) (by rw [hln]; exact hzn)
                have f9 := hb.free zn
                have HN := Lib.hid (show setT bs (cl.take (j + 1)) = (setT bs (cl.take j)).set zn true by rw [List.take_succ_eq_append_getElem hjl, setT_snoc, hz2]; rfl)
                have HNB := Lib.hid (hb.set_ zn true)
                have HNX := Lib.hid (show Ext w5 (wr.setCell ⟨g9, zn, none⟩ (.bool true)) from Below.setCell hx (by rw [HG9.out]; exact Nat.le_refl _) (p := ⟨g9, zn, none⟩) _)
                clear hb hx hc7 hz hz2 hzr hln hjl
                go_wp2
                go_roundw
                case rel => exact ⟨j + 1, by omega, by go_num, by rw [HN.out]; exact HNB.out, HNX.out⟩
                case measure => simp [intOf]; omega
              · obtain rfl : j = n7 := by omega
                rw [List.take_of_length_le (by rw [HL7.out]; exact Nat.le_refl _)] at hb
                have HNB := Lib.hid hb
                have HNM := Lib.hid (mkd_cls HMK.out HM.out)
                clear hb hx
                go_wp2
                go_roundw
                case rel => exact ⟨k + 1, _, by omega, by omega, by go_num, HNB.out, HNM.out, HX.out⟩
                case measure => simp [intOf]; omega
          · have HQ := Lib.hid (show ∃ bs, BB wr g9 bs ∧ mkd n1 tf bs ∧ Ext w5 wr from ⟨bs, hb, hmk, hx⟩)
            clear hb hmk hx HB HMK HX
            by_cases hkq : k < q
            · have pk : (k : Int) < (q : Int) := by omega
              have pk12 : ¬ ((k : Int) < 12) := by omega
              go_wp2_with fail
              go_meet
              exact HQ.out
            · obtain rfl : k = q := by omega
              go_wp2_with fail
              go_meet
              exact HQ.out
      case rest =>
        obtain ⟨bs, hb, hmk, hx⟩ := hcut
        have HBB := Lib.hid hb
        have HMK := Lib.hid hmk
        have HX := Lib.hid hx
        have HWC := Lib.hid (bt X5.out hx)
        clear hb hmk hx
        go_upto_region 15 with fail
        obtain ⟨x, hxr, hxe⟩ := cost_rng y
        rw [hxe]
        have b9 : Blk (wc.alloc (.cells #[.int .i64 x, .slice none 0 0] TTE)) wc.heap.size TTE #[.int .i64 x, .slice none 0 0] := Blk.new_ _ _ rfl
        have x9 : Below wc.heap.size wc (wc.alloc (.cells #[.int .i64 x, .slice none 0 0] TTE)) := Ext.allocR _ _
        refine wp_world (fun W1 => Blk W1 wc.heap.size TTE #[.int .i64 x, .slice none 0 0] ∧ Below wc.heap.size wc W1) ⟨b9, x9⟩ ?_
        clear b9 x9 hxe
        rintro W1 ⟨b9, x9⟩
        obtain ⟨p9, hp9⟩ : ∃ p, wc.heap.size = p := ⟨_, rfl⟩
        rw [hp9] at b9 x9 ⊢
        have HP9 := Lib.hid hp9
        have H9 := Lib.hid (show Blk W1 p9 TTE #[.int .i64 x, .slice none 0 0] ∧ OwI p9 W1 (.slice none 0 0) (mkL bs 0) ∧ Below p9 wc W1 from ⟨b9, OwI.nil _ _, x9⟩)
        clear b9 x9 hp9
        go_wp2_with fail
        go_loopw [14] (fun i wi => ∃ (k : Nat) (A6 : Option Addr) (n6 c6 : Nat), k ≤ n1 ∧ i = .int .i64 (k : Int) ∧ Blk wi p9 TTE #[.int .i64 x, .slice A6 n6 c6] ∧ OwI p9 wi (.slice A6 n6 c6) (mkL bs k) ∧ Below p9 wc wi) (fun i _ => n1 - (intOf i).toNat)
        case atStart => exact ⟨0, _, _, _, by omega, rfl, H9.out⟩
        case round =>
          clear H9
          obtain ⟨k, A6, n6, c6, hk, rfl, b9, ho9, hx9⟩ := hrel
          have hex : Ext wc wr := by unfold Ext; rw [HP9.out]; exact hx9
          have HEX := Lib.hid hex
          by_cases hkn : k < n1
          · have pk : (k : Int) < (n1 : Int) := by omega
            have hcb := (HBB.out.below hex).cell (j := k) (by rw [HMK.out.1]; exact hkn)
            have HLN := Lib.hid (mkL_len bs k)
            have hsz : p9 ≤ wr.heap.size := by have h1 := HP9.out; have h2 := Ext.size hex; omega
            have c9 := b9.cells
            simp only [cellsAre, Nat.zero_add, Nat.reduceAdd, and_true] at c9
            have HB9 := Lib.hid b9
            have HO9 := Lib.hid ho9
            have HX9 := Lib.hid hx9
            have hsu := mkL_succ bs k
            cases hbk : bs.getD k false with
            | true =>
              rw [hbk] at hcb hsu
              have HSU := Lib.hid (show mkL bs (k + 1) = mkL bs k ++ [(k : Int)] from hsu)
              clear hsu hbk b9 ho9 hx9 hex
              go_wp2_with (at_builtin; refine wp_appE TIS TIN _ 1 8 int_info Tryd.underlying37 rfl (by omega) (by omega) rfl _ _ rfl p9 (.slice A6 n6 c6) _ _ rfl (HO9.out.alloc _) ⟨wr.heap.size, 0, none⟩ 1 1 [.int .i64 (k : Int)] rfl rfl (cell_new wr [.int .i64 (k : Int)] TIN) (int_one _) (by have := HLN.out; omega) (by omega) (by simp; omega) ?_; intro v6 w6 hown6 hb6 hg6; have hn6 : OwI p9 w6 v6 (mkL bs (k + 1)) := (by rw [HSU.out]; exact OwI.snoc hown6); obtain ⟨A7, n7, c7, hv7, _⟩ := hn6.il3; subst hv7; have b96 := (HB9.out.below (Ext.allocR wr (.cells #[.int .i64 (k : Int)] TIN))).grown hg6 (own_tag (HO9.out.alloc _) (by decide)); have c96 := b96.cells; have f96 := Blk.free b96 1; have HE := Lib.hid (And.intro b96 (And.intro hn6 ((HX9.out.trans (Below.mono (Ext.allocR wr (.cells #[.int .i64 (k : Int)] TIN)) hsz)).trans hb6))); simp only [cellsAre, Nat.zero_add, Nat.reduceAdd, and_true] at c96; clear b96 hn6 hown6 hb6 hg6)
              go_roundw
              case rel =>
                obtain ⟨e1, e2, e3⟩ := HE.out
                exact ⟨k + 1, _, _, _, by omega, by go_num, e1.set_ 1 _, OwT.far e2 e1 (by decide) 1 _, e3.setCell (Nat.le_refl _) _⟩
              case measure => simp [intOf]; omega
            | false =>
              rw [hbk] at hcb hsu
              have HSU := Lib.hid (show mkL bs (k + 1) = mkL bs k by rw [hsu]; exact List.append_nil _)
              clear hsu hbk b9 ho9 hx9 hex
              go_wp2
              go_roundw
              case rel => exact ⟨k + 1, _, _, _, by omega, by go_num, HB9.out, by rw [HSU.out]; exact HO9.out, HX9.out⟩
              case measure => simp [intOf]; omega
          · obtain rfl : k = n1 := by omega
            have il6 := ho9.ilv
            have SL6 := Lib.hid ho9.sl
            have c5 := (B5.out.below (bt HX.out hex)).cells
            simp only [cellsAre, Nat.zero_add, Nat.reduceAdd, and_true] at c5
            have X9 := Lib.hid (bt HWC.out hex)
            have R9 := Lib.hid b9
            have I9 := Lib.hid il6
            clear b9 ho9 hx9 hex il6
            go_wp2_with fail
            refine (rbest_any A1 A2 k c1 n2 c2 wf tf wr (I1.out.below X9.out) (T2.out.below X9.out) (HT.out.below (bt HB1.out X9.out))).mono ?_
            rintro e wa ⟨va, rfl, hva, hba⟩
            obtain ⟨Aa, na, ca, hva2, spa⟩ := hva.1 HC.out
            subst hva2
            have hxa : Ext wr wa := hba
            have HXA := Lib.hid hxa
            have HCN := Lib.hid (more_cv HC.out (by rw [HL2.out]; exact h15) (bs := bs) hxr)
            rw [HL1.out] at HCN
            have Xa := Lib.hid (bt X9.out hba)
            obtain ⟨P, hP⟩ : ∃ P, pC wf tf (allS wf) = P := ⟨_, rfl⟩
            rw [hP]
            have HP := Lib.hid hP
            have kc := fun w' (hh : Ext wa w') => (B5.out.below (bt (bt (bt HX.out HEX.out) hxa) hh)).cells
            have kr := fun w' (hh : Ext wa w') => (R9.out.below (bt hxa hh)).cells
            simp only [cellsAre, Nat.zero_add, Nat.reduceAdd, and_true] at kc kr
            have hst : Ext wa wa.drew := Ext.drew _
            clear hva hba spa hP c5 hxa
            go_upto_region 21 with fail
            go_cut [18, 19, 20] (fun s18 s19 s20 wx => (∃ A n c, s18 = .slice A n c) ∧ s19 = .int .i64 (pC wf (tf ++ [(x, mkL bs k)]) (allS wf)) ∧ s20 = .int .i64 0 ∧ Ext wa wx)
            case first =>
              refine wp_region_brn (S := Ext wa) (by kernel_rfl) (by kernel_rfl) (fun _ _ _ _ _ => ⟨fun h => h, fun h => h⟩) ?_
              intro hsel_ hQ_
              refine wpB_chunk (f := 12) (L' := #[true, true, false, true, true, false, true, false, false, false, false, false, false, false, false, false, false]) hsel_ hQ_ [(0, true, some 115, none), (1, true, some 116, none), (3, true, some 118, none), (4, true, some 119, none), (6, true, some 121, none)] _ _ _ (by kernel_rfl) hst ?_
              repeat (first | (refine wpSeqB_pure (v := ?_) rfl ?_ ?_; rotate_left 1; (focus (intro wq_ hSq_; (try dsimp only at hSq_); go_simp; (try with_reducible rfl); done)); (try simp only [Act.put, List.setIfInBounds_toArray, List.set_cons_zero, List.set_cons_succ])) | (refine wpSeqB_pureG (v := ?_) rfl rfl ?_ ?_; rotate_left 1; (focus (intro wq_ hSq_; (try dsimp only at hSq_); go_simp; (try with_reducible rfl); done)); (try simp only [Act.put, List.setIfInBounds_toArray, List.set_cons_zero, List.set_cons_succ])) | (refine wpSeqB_off rfl rfl ?_; (try simp only [Act.put, List.setIfInBounds_toArray, List.set_cons_zero, List.set_cons_succ])) | (refine wpSeqB_offU rfl ?_; (try simp only [Act.put, List.setIfInBounds_toArray, List.set_cons_zero, List.set_cons_succ])))
              intro s0
              obtain ⟨wd, hwd⟩ : ∃ wd, wa.drew = wd := ⟨_, rfl⟩
              rw [hwd] at s0 ⊢
              have hBd : wa.heap.size ≤ wd.heap.size := Ext.size s0
              clear hst hwd
              have X0 := OwP.lit0 hBd
              refine wpB_two 2 7 (by kernel_rfl) rfl rfl rfl rfl ?_ ?_
              · intro K hK
                go_simp
                refine hK.out _ _ (bt s0 (Ext.allocR _ _)) ?_
                clear hK K
                have sz1 : (wd.alloc (.cells #[] TTE)).heap.size = wd.heap.size + 1 := by simp
                refine wpB_two 5 7 (by kernel_rfl) rfl rfl rfl rfl ?_ ?_
                · intro K hK
                  refine wp_appP _ _ (by rfl) wa.heap.size (.slice (some ⟨wd.heap.size, 0, none⟩) 0 0) [] (by rfl) X0 A2 n2 c2 tf (by rfl) (SL2.out.below (bt Xa.out (bt s0 (Ext.allocR _ _)))) (by simp) (by omega) (Ext.size (bt s0 (Ext.allocR _ _))) ?_
                  intro A7 n7 c7 w7 hO hB hG
                  rw [List.nil_append] at hO
                  have s7 : Ext wa w7 := (bt s0 (Ext.allocR wd (.cells #[] TTE))).trans hB
                  refine hK.out _ _ s7 ?_
                  clear hK K hG hB
                  (try simp only [List.getElem_toArray, List.getElem_cons_succ, List.getElem_cons_zero, Act.put, List.setIfInBounds_toArray, List.set_cons_zero, List.set_cons_succ])
                  refine wpB_chunk (f := 0) (L' := #[true, true, true, true, true, true, true, true, true, true, true, true, true, true, true, true, true]) hsel_ hQ_ [(7, false, some 122, none), (8, false, some 123, none), (9, false, some 124, none), (10, true, some 114, none), (11, true, some 125, none), (12, true, some 126, none), (13, true, some 127, none), (14, false, some 18, none), (15, false, some 19, none), (16, false, some 20, none)] _ _ _ (by kernel_rfl) s7 ?_
                  repeat (first | (refine wpSeqB_pure (v := ?_) rfl ?_ ?_; rotate_left 1; (focus (intro wq_ hSq_; (try dsimp only at hSq_); go_simp; (try with_reducible rfl); done)); (try simp only [Act.put, List.setIfInBounds_toArray, List.set_cons_zero, List.set_cons_succ])) | (refine wpSeqB_pureG (v := ?_) rfl rfl ?_ ?_; rotate_left 1; (focus (intro wq_ hSq_; (try dsimp only at hSq_); go_simp; (try with_reducible rfl); done)); (try simp only [Act.put, List.setIfInBounds_toArray, List.set_cons_zero, List.set_cons_succ])) | (refine wpSeqB_off rfl rfl ?_; (try simp only [Act.put, List.setIfInBounds_toArray, List.set_cons_zero, List.set_cons_succ])) | (refine wpSeqB_offU rfl ?_; (try simp only [Act.put, List.setIfInBounds_toArray, List.set_cons_zero, List.set_cons_succ])))
                  first | refine wpSeqB_call rfl (fun K hK => ?_) | refine wpSeqB_callG rfl rfl (fun K hK => ?_)
                  go_simp
                  refine hK.out _ _ (bt s7 (Ext.allocR _ _)) ?_
                  clear hK K
                  (try simp only [List.getElem_toArray, List.getElem_cons_succ, List.getElem_cons_zero, Act.put, List.setIfInBounds_toArray, List.set_cons_zero, List.set_cons_succ])
                  have hO9 := hO.below (Ext.allocR w7 (.cells #[.int .i64 x, .slice A6 n6 c6] TTE))
                  have hZ9 : SlP TTE (w7.alloc (.cells #[.int .i64 x, .slice A6 n6 c6] TTE)) (some ⟨w7.heap.size, 0, none⟩) 1 1 [(x, mkL bs k)] := SlP.one (Blk.new_ _ _ rfl) (SL6.out.below (bt HXA.out (bt s7 (Ext.allocR _ _))))
                  have s9 : Ext wa (w7.alloc (.cells #[.int .i64 x, .slice A6 n6 c6] TTE)) := bt s7 (Ext.allocR _ _)
                  first | refine wpSeqB_call rfl (fun K hK => ?_) | refine wpSeqB_callG rfl rfl (fun K hK => ?_)
                  refine wp_appP _ _ (by rfl) wa.heap.size (.slice A7 n7 c7) tf (by rfl) hO9 (some ⟨w7.heap.size, 0, none⟩) 1 1 [(x, mkL bs k)] (by rfl) hZ9 (by have := HL2.out; omega) (by omega) (Ext.size s9) ?_
                  intro A10 n10 c10 w10 hO10 hB10 hG10
                  have s10 : Ext wa w10 := Below.trans s9 hB10
                  refine hK.out _ _ s10 ?_
                  clear hK K
                  (try simp only [List.getElem_toArray, List.getElem_cons_succ, List.getElem_cons_zero, Act.put, List.setIfInBounds_toArray, List.set_cons_zero, List.set_cons_succ])
                  repeat (first | (refine wpSeqB_pure (v := ?_) rfl ?_ ?_; rotate_left 1; (focus (intro wq_ hSq_; (try dsimp only at hSq_); go_simp; (try with_reducible rfl); done)); (try simp only [Act.put, List.setIfInBounds_toArray, List.set_cons_zero, List.set_cons_succ])) | (refine wpSeqB_pureG (v := ?_) rfl rfl ?_ ?_; rotate_left 1; (focus (intro wq_ hSq_; (try dsimp only at hSq_); go_simp; (try with_reducible rfl); done)); (try simp only [Act.put, List.setIfInBounds_toArray, List.set_cons_zero, List.set_cons_succ])) | (refine wpSeqB_off rfl rfl ?_; (try simp only [Act.put, List.setIfInBounds_toArray, List.set_cons_zero, List.set_cons_succ])) | (refine wpSeqB_offU rfl ?_; (try simp only [Act.put, List.setIfInBounds_toArray, List.set_cons_zero, List.set_cons_succ])))
                  first | refine wpSeqB_call rfl (fun K hK => ?_) | refine wpSeqB_callG rfl rfl (fun K hK => ?_)
                  go_simp
                  refine (rbest_any A1 A10 k c1 n10 c10 wf (tf ++ [(x, mkL bs k)]) w10 (I1.out.below (bt Xa.out s10)) hO10.ts_ (HT.out.below (bt HB1.out (bt Xa.out s10)))).mono ?_
                  rintro e w11 ⟨z11, rfl, hz11, b11⟩
                  obtain ⟨A12, n12, c12, hv12, _⟩ := hz11.1 HCN.out
                  subst hv12
                  have s11 : Ext wa w11 := bt s10 b11
                  refine hK.out _ _ s11 ?_
                  clear hK K
                  (try simp only [List.getElem_toArray, List.getElem_cons_succ, List.getElem_cons_zero, Act.put, List.setIfInBounds_toArray, List.set_cons_zero, List.set_cons_succ])
                  repeat (first | (refine wpSeqB_pure (v := ?_) rfl ?_ ?_; rotate_left 1; (focus (intro wq_ hSq_; (try dsimp only at hSq_); go_simp; (try with_reducible rfl); done)); (try simp only [Act.put, List.setIfInBounds_toArray, List.set_cons_zero, List.set_cons_succ])) | (refine wpSeqB_pureG (v := ?_) rfl rfl ?_ ?_; rotate_left 1; (focus (intro wq_ hSq_; (try dsimp only at hSq_); go_simp; (try with_reducible rfl); done)); (try simp only [Act.put, List.setIfInBounds_toArray, List.set_cons_zero, List.set_cons_succ])) | (refine wpSeqB_off rfl rfl ?_; (try simp only [Act.put, List.setIfInBounds_toArray, List.set_cons_zero, List.set_cons_succ])) | (refine wpSeqB_offU rfl ?_; (try simp only [Act.put, List.setIfInBounds_toArray, List.set_cons_zero, List.set_cons_succ])))
                  first | refine wpSeqB_call rfl (fun K hK => ?_) | refine wpSeqB_callG rfl rfl (fun K hK => ?_)
                  go_simp
                  refine hK.out _ _ s11 ?_
                  clear hK K
                  (try simp only [List.getElem_toArray, List.getElem_cons_succ, List.getElem_cons_zero, Act.put, List.setIfInBounds_toArray, List.set_cons_zero, List.set_cons_succ])
                  repeat (first | (refine wpSeqB_pure (v := ?_) rfl ?_ ?_; rotate_left 1; (focus (intro wq_ hSq_; (try dsimp only at hSq_); go_simp; (try with_reducible rfl); done)); (try simp only [Act.put, List.setIfInBounds_toArray, List.set_cons_zero, List.set_cons_succ])) | (refine wpSeqB_pureG (v := ?_) rfl rfl ?_ ?_; rotate_left 1; (focus (intro wq_ hSq_; (try dsimp only at hSq_); go_simp; (try with_reducible rfl); done)); (try simp only [Act.put, List.setIfInBounds_toArray, List.set_cons_zero, List.set_cons_succ])) | (refine wpSeqB_off rfl rfl ?_; (try simp only [Act.put, List.setIfInBounds_toArray, List.set_cons_zero, List.set_cons_succ])) | (refine wpSeqB_offU rfl ?_; (try simp only [Act.put, List.setIfInBounds_toArray, List.set_cons_zero, List.set_cons_succ])))
                  first | refine wpSeqB_call rfl (fun K hK => ?_) | refine wpSeqB_callG rfl rfl (fun K hK => ?_)
                  go_simp
                  refine hK.out _ _ s11 ?_
                  clear hK K
                  (try simp only [List.getElem_toArray, List.getElem_cons_succ, List.getElem_cons_zero, Act.put, List.setIfInBounds_toArray, List.set_cons_zero, List.set_cons_succ])
                  repeat (first | (refine wpSeqB_pure (v := ?_) rfl ?_ ?_; rotate_left 1; (focus (intro wq_ hSq_; (try dsimp only at hSq_); go_simp; (try with_reducible rfl); done)); (try simp only [Act.put, List.setIfInBounds_toArray, List.set_cons_zero, List.set_cons_succ])) | (refine wpSeqB_pureG (v := ?_) rfl rfl ?_ ?_; rotate_left 1; (focus (intro wq_ hSq_; (try dsimp only at hSq_); go_simp; (try with_reducible rfl); done)); (try simp only [Act.put, List.setIfInBounds_toArray, List.set_cons_zero, List.set_cons_succ])) | (refine wpSeqB_off rfl rfl ?_; (try simp only [Act.put, List.setIfInBounds_toArray, List.set_cons_zero, List.set_cons_succ])) | (refine wpSeqB_offU rfl ?_; (try simp only [Act.put, List.setIfInBounds_toArray, List.set_cons_zero, List.set_cons_succ])))
                  first | refine wpSeqB_call rfl (fun K hK => ?_) | refine wpSeqB_callG rfl rfl (fun K hK => ?_)
                  go_simp
                  refine hK.out _ _ s11 ?_
                  clear hK K
                  (try simp only [List.getElem_toArray, List.getElem_cons_succ, List.getElem_cons_zero, Act.put, List.setIfInBounds_toArray, List.set_cons_zero, List.set_cons_succ])
                  repeat (first | (refine wpSeqB_pure (v := ?_) rfl ?_ ?_; rotate_left 1; (focus (intro wq_ hSq_; (try dsimp only at hSq_); go_simp; (try with_reducible rfl); done)); (try simp only [Act.put, List.setIfInBounds_toArray, List.set_cons_zero, List.set_cons_succ])) | (refine wpSeqB_pureG (v := ?_) rfl rfl ?_ ?_; rotate_left 1; (focus (intro wq_ hSq_; (try dsimp only at hSq_); go_simp; (try with_reducible rfl); done)); (try simp only [Act.put, List.setIfInBounds_toArray, List.set_cons_zero, List.set_cons_succ])) | (refine wpSeqB_off rfl rfl ?_; (try simp only [Act.put, List.setIfInBounds_toArray, List.set_cons_zero, List.set_cons_succ])) | (refine wpSeqB_offU rfl ?_; (try simp only [Act.put, List.setIfInBounds_toArray, List.set_cons_zero, List.set_cons_succ])))
                  intro s_
                  refine wpB_end (by kernel_rfl) ?_
                  go_wp2_with fail
                  go_meet
                  exact ⟨⟨_, _, _, rfl⟩, rfl, rfl, s11⟩
                · intro K hK
                  go_simp
                  have s2 := bt (bt s0 (Ext.allocR wd (.cells #[] TTE))) (Ext.allocR (wd.alloc (.cells #[] TTE)) (.cells #[.int .i64 x, .slice A6 n6 c6] TTE))
                  refine hK.out _ _ s2 ?_
                  clear hK K
                  (try simp only [List.getElem_toArray, List.getElem_cons_succ, List.getElem_cons_zero, Act.put, List.setIfInBounds_toArray, List.set_cons_zero, List.set_cons_succ])
                  have bZ : Blk ((wd.alloc (.cells #[] TTE)).alloc (.cells #[.int .i64 x, .slice A6 n6 c6] TTE)) (wd.heap.size + 1) TTE #[.int .i64 x, .slice A6 n6 c6] := Blk.new_ _ _ sz1
                  have X2 := X0.below (Ext.allocR (wd.alloc (.cells #[] TTE)) (.cells #[.int .i64 x, .slice A6 n6 c6] TTE))
                  refine wpB_chunk (f := 0) (L' := #[true, true, true, true, true, true, true, true, true, true, true, true, true, true, true, true, true]) hsel_ hQ_ [(5, false, some 120, none), (8, false, some 123, none), (9, false, some 124, none), (10, true, some 114, none), (11, true, some 125, none), (12, true, some 126, none), (13, true, some 127, none), (14, false, some 18, none), (15, false, some 19, none), (16, false, some 20, none)] _ _ _ (by kernel_rfl) s2 ?_
                  repeat (first | (refine wpSeqB_pure (v := ?_) rfl ?_ ?_; rotate_left 1; (focus (intro wq_ hSq_; (try dsimp only at hSq_); go_simp; (try with_reducible rfl); done)); (try simp only [Act.put, List.setIfInBounds_toArray, List.set_cons_zero, List.set_cons_succ])) | (refine wpSeqB_pureG (v := ?_) rfl rfl ?_ ?_; rotate_left 1; (focus (intro wq_ hSq_; (try dsimp only at hSq_); go_simp; (try with_reducible rfl); done)); (try simp only [Act.put, List.setIfInBounds_toArray, List.set_cons_zero, List.set_cons_succ])) | (refine wpSeqB_off rfl rfl ?_; (try simp only [Act.put, List.setIfInBounds_toArray, List.set_cons_zero, List.set_cons_succ])) | (refine wpSeqB_offU rfl ?_; (try simp only [Act.put, List.setIfInBounds_toArray, List.set_cons_zero, List.set_cons_succ])))
                  first | refine wpSeqB_call rfl (fun K hK => ?_) | refine wpSeqB_callG rfl rfl (fun K hK => ?_)
                  refine wp_appP _ _ (by rfl) wa.heap.size (.slice (some ⟨wd.heap.size, 0, none⟩) 0 0) [] (by rfl) X2 A2 n2 c2 tf (by rfl) (SL2.out.below (bt Xa.out s2)) (by simp) (by omega) (Ext.size s2) ?_
                  intro A7 n7 c7 w7 hO9 hB hG
                  rw [List.nil_append] at hO9
                  have s9 : Ext wa w7 := Below.trans s2 hB
                  have bZ7 : Blk w7 (wd.heap.size + 1) TTE #[.int .i64 x, .slice A6 n6 c6] := (hG.block _ bZ.lt (by simp [Value.ownBlock])).trans bZ
                  have hZ9 : SlP TTE w7 (some ⟨(wd.heap.size + 1), 0, none⟩) 1 1 [(x, mkL bs k)] := SlP.one bZ7 (SL6.out.below (bt HXA.out s9))
                  refine hK.out _ _ s9 ?_
                  clear hK K
                  (try simp only [List.getElem_toArray, List.getElem_cons_succ, List.getElem_cons_zero, Act.put, List.setIfInBounds_toArray, List.set_cons_zero, List.set_cons_succ])
                  repeat (first | (refine wpSeqB_pure (v := ?_) rfl ?_ ?_; rotate_left 1; (focus (intro wq_ hSq_; (try dsimp only at hSq_); go_simp; (try with_reducible rfl); done)); (try simp only [Act.put, List.setIfInBounds_toArray, List.set_cons_zero, List.set_cons_succ])) | (refine wpSeqB_pureG (v := ?_) rfl rfl ?_ ?_; rotate_left 1; (focus (intro wq_ hSq_; (try dsimp only at hSq_); go_simp; (try with_reducible rfl); done)); (try simp only [Act.put, List.setIfInBounds_toArray, List.set_cons_zero, List.set_cons_succ])) | (refine wpSeqB_off rfl rfl ?_; (try simp only [Act.put, List.setIfInBounds_toArray, List.set_cons_zero, List.set_cons_succ])) | (refine wpSeqB_offU rfl ?_; (try simp only [Act.put, List.setIfInBounds_toArray, List.set_cons_zero, List.set_cons_succ])))
                  first | refine wpSeqB_call rfl (fun K hK => ?_) | refine wpSeqB_callG rfl rfl (fun K hK => ?_)
                  refine wp_appP _ _ (by rfl) wa.heap.size (.slice A7 n7 c7) tf (by rfl) hO9 (some ⟨(wd.heap.size + 1), 0, none⟩) 1 1 [(x, mkL bs k)] (by rfl) hZ9 (by have := HL2.out; omega) (by omega) (Ext.size s9) ?_
                  intro A10 n10 c10 w10 hO10 hB10 hG10
                  have s10 : Ext wa w10 := Below.trans s9 hB10
                  refine hK.out _ _ s10 ?_
                  clear hK K
                  (try simp only [List.getElem_toArray, List.getElem_cons_succ, List.getElem_cons_zero, Act.put, List.setIfInBounds_toArray, List.set_cons_zero, List.set_cons_succ])
                  repeat (first | (refine wpSeqB_pure (v := ?_) rfl ?_ ?_; rotate_left 1; (focus (intro wq_ hSq_; (try dsimp only at hSq_); go_simp; (try with_reducible rfl); done)); (try simp only [Act.put, List.setIfInBounds_toArray, List.set_cons_zero, List.set_cons_succ])) | (refine wpSeqB_pureG (v := ?_) rfl rfl ?_ ?_; rotate_left 1; (focus (intro wq_ hSq_; (try dsimp only at hSq_); go_simp; (try with_reducible rfl); done)); (try simp only [Act.put, List.setIfInBounds_toArray, List.set_cons_zero, List.set_cons_succ])) | (refine wpSeqB_off rfl rfl ?_; (try simp only [Act.put, List.setIfInBounds_toArray, List.set_cons_zero, List.set_cons_succ])) | (refine wpSeqB_offU rfl ?_; (try simp only [Act.put, List.setIfInBounds_toArray, List.set_cons_zero, List.set_cons_succ])))
                  first | refine wpSeqB_call rfl (fun K hK => ?_) | refine wpSeqB_callG rfl rfl (fun K hK => ?_)
                  go_simp
                  refine (rbest_any A1 A10 k c1 n10 c10 wf (tf ++ [(x, mkL bs k)]) w10 (I1.out.below (bt Xa.out s10)) hO10.ts_ (HT.out.below (bt HB1.out (bt Xa.out s10)))).mono ?_
                  rintro e w11 ⟨z11, rfl, hz11, b11⟩
                  obtain ⟨A12, n12, c12, hv12, _⟩ := hz11.1 HCN.out
                  subst hv12
                  have s11 : Ext wa w11 := bt s10 b11
                  refine hK.out _ _ s11 ?_
                  clear hK K
                  (try simp only [List.getElem_toArray, List.getElem_cons_succ, List.getElem_cons_zero, Act.put, List.setIfInBounds_toArray, List.set_cons_zero, List.set_cons_succ])
                  repeat (first | (refine wpSeqB_pure (v := ?_) rfl ?_ ?_; rotate_left 1; (focus (intro wq_ hSq_; (try dsimp only at hSq_); go_simp; (try with_reducible rfl); done)); (try simp only [Act.put, List.setIfInBounds_toArray, List.set_cons_zero, List.set_cons_succ])) | (refine wpSeqB_pureG (v := ?_) rfl rfl ?_ ?_; rotate_left 1; (focus (intro wq_ hSq_; (try dsimp only at hSq_); go_simp; (try with_reducible rfl); done)); (try simp only [Act.put, List.setIfInBounds_toArray, List.set_cons_zero, List.set_cons_succ])) | (refine wpSeqB_off rfl rfl ?_; (try simp only [Act.put, List.setIfInBounds_toArray, List.set_cons_zero, List.set_cons_succ])) | (refine wpSeqB_offU rfl ?_; (try simp only [Act.put, List.setIfInBounds_toArray, List.set_cons_zero, List.set_cons_succ])))
                  first | refine wpSeqB_call rfl (fun K hK => ?_) | refine wpSeqB_callG rfl rfl (fun K hK => ?_)
                  go_simp
                  refine hK.out _ _ s11 ?_
                  clear hK K
                  (try simp only [List.getElem_toArray, List.getElem_cons_succ, List.getElem_cons_zero, Act.put, List.setIfInBounds_toArray, List.set_cons_zero, List.set_cons_succ])
                  repeat (first | (refine wpSeqB_pure (v := ?_) rfl ?_ ?_; rotate_left 1; (focus (intro wq_ hSq_; (try dsimp only at hSq_); go_simp; (try with_reducible rfl); done)); (try simp only [Act.put, List.setIfInBounds_toArray, List.set_cons_zero, List.set_cons_succ])) | (refine wpSeqB_pureG (v := ?_) rfl rfl ?_ ?_; rotate_left 1; (focus (intro wq_ hSq_; (try dsimp only at hSq_); go_simp; (try with_reducible rfl); done)); (try simp only [Act.put, List.setIfInBounds_toArray, List.set_cons_zero, List.set_cons_succ])) | (refine wpSeqB_off rfl rfl ?_; (try simp only [Act.put, List.setIfInBounds_toArray, List.set_cons_zero, List.set_cons_succ])) | (refine wpSeqB_offU rfl ?_; (try simp only [Act.put, List.setIfInBounds_toArray, List.set_cons_zero, List.set_cons_succ])))
                  first | refine wpSeqB_call rfl (fun K hK => ?_) | refine wpSeqB_callG rfl rfl (fun K hK => ?_)
                  go_simp
                  refine hK.out _ _ s11 ?_
                  clear hK K
                  (try simp only [List.getElem_toArray, List.getElem_cons_succ, List.getElem_cons_zero, Act.put, List.setIfInBounds_toArray, List.set_cons_zero, List.set_cons_succ])
                  repeat (first | (refine wpSeqB_pure (v := ?_) rfl ?_ ?_; rotate_left 1; (focus (intro wq_ hSq_; (try dsimp only at hSq_); go_simp; (try with_reducible rfl); done)); (try simp only [Act.put, List.setIfInBounds_toArray, List.set_cons_zero, List.set_cons_succ])) | (refine wpSeqB_pureG (v := ?_) rfl rfl ?_ ?_; rotate_left 1; (focus (intro wq_ hSq_; (try dsimp only at hSq_); go_simp; (try with_reducible rfl); done)); (try simp only [Act.put, List.setIfInBounds_toArray, List.set_cons_zero, List.set_cons_succ])) | (refine wpSeqB_off rfl rfl ?_; (try simp only [Act.put, List.setIfInBounds_toArray, List.set_cons_zero, List.set_cons_succ])) | (refine wpSeqB_offU rfl ?_; (try simp only [Act.put, List.setIfInBounds_toArray, List.set_cons_zero, List.set_cons_succ])))
                  first | refine wpSeqB_call rfl (fun K hK => ?_) | refine wpSeqB_callG rfl rfl (fun K hK => ?_)
                  go_simp
                  refine hK.out _ _ s11 ?_
                  clear hK K
                  (try simp only [List.getElem_toArray, List.getElem_cons_succ, List.getElem_cons_zero, Act.put, List.setIfInBounds_toArray, List.set_cons_zero, List.set_cons_succ])
                  repeat (first | (refine wpSeqB_pure (v := ?_) rfl ?_ ?_; rotate_left 1; (focus (intro wq_ hSq_; (try dsimp only at hSq_); go_simp; (try with_reducible rfl); done)); (try simp only [Act.put, List.setIfInBounds_toArray, List.set_cons_zero, List.set_cons_succ])) | (refine wpSeqB_pureG (v := ?_) rfl rfl ?_ ?_; rotate_left 1; (focus (intro wq_ hSq_; (try dsimp only at hSq_); go_simp; (try with_reducible rfl); done)); (try simp only [Act.put, List.setIfInBounds_toArray, List.set_cons_zero, List.set_cons_succ])) | (refine wpSeqB_off rfl rfl ?_; (try simp only [Act.put, List.setIfInBounds_toArray, List.set_cons_zero, List.set_cons_succ])) | (refine wpSeqB_offU rfl ?_; (try simp only [Act.put, List.setIfInBounds_toArray, List.set_cons_zero, List.set_cons_succ])))
                  intro s_
                  refine wpB_end (by kernel_rfl) ?_
                  go_wp2_with fail
                  go_meet
                  exact ⟨⟨_, _, _, rfl⟩, rfl, rfl, s11⟩
              · intro K hK
                go_simp
                refine hK.out _ _ (bt s0 (Ext.allocR _ _)) ?_
                clear hK K
                (try simp only [List.getElem_toArray, List.getElem_cons_succ, List.getElem_cons_zero, Act.put, List.setIfInBounds_toArray, List.set_cons_zero, List.set_cons_succ])
                have sz1 : (wd.alloc (.cells #[.int .i64 x, .slice A6 n6 c6] TTE)).heap.size = wd.heap.size + 1 := by simp
                have s1 := bt s0 (Ext.allocR wd (.cells #[.int .i64 x, .slice A6 n6 c6] TTE))
                refine wpB_chunk (f := 0) (L' := #[true, true, true, true, true, true, true, true, true, true, true, true, true, true, true, true, true]) hsel_ hQ_ [(2, false, some 117, none), (5, false, some 120, none), (8, false, some 123, none), (9, false, some 124, none), (10, true, some 114, none), (11, true, some 125, none), (12, true, some 126, none), (13, true, some 127, none), (14, false, some 18, none), (15, false, some 19, none), (16, false, some 20, none)] _ _ _ (by kernel_rfl) s1 ?_
                repeat (first | (refine wpSeqB_pure (v := ?_) rfl ?_ ?_; rotate_left 1; (focus (intro wq_ hSq_; (try dsimp only at hSq_); go_simp; (try with_reducible rfl); done)); (try simp only [Act.put, List.setIfInBounds_toArray, List.set_cons_zero, List.set_cons_succ])) | (refine wpSeqB_pureG (v := ?_) rfl rfl ?_ ?_; rotate_left 1; (focus (intro wq_ hSq_; (try dsimp only at hSq_); go_simp; (try with_reducible rfl); done)); (try simp only [Act.put, List.setIfInBounds_toArray, List.set_cons_zero, List.set_cons_succ])) | (refine wpSeqB_off rfl rfl ?_; (try simp only [Act.put, List.setIfInBounds_toArray, List.set_cons_zero, List.set_cons_succ])) | (refine wpSeqB_offU rfl ?_; (try simp only [Act.put, List.setIfInBounds_toArray, List.set_cons_zero, List.set_cons_succ])))
                first | refine wpSeqB_call rfl (fun K hK => ?_) | refine wpSeqB_callG rfl rfl (fun K hK => ?_)
                go_simp
                have s2 := bt s1 (Ext.allocR (wd.alloc (.cells #[.int .i64 x, .slice A6 n6 c6] TTE)) (.cells #[] TTE))
                refine hK.out _ _ s2 ?_
                clear hK K
                (try simp only [List.getElem_toArray, List.getElem_cons_succ, List.getElem_cons_zero, Act.put, List.setIfInBounds_toArray, List.set_cons_zero, List.set_cons_succ])
                have bZ : Blk ((wd.alloc (.cells #[.int .i64 x, .slice A6 n6 c6] TTE)).alloc (.cells #[] TTE)) wd.heap.size TTE #[.int .i64 x, .slice A6 n6 c6] := (Blk.new_ _ _ rfl).alloc _
                have X2 := OwP.lit0 (base := wa.heap.size) (W := wd.alloc (.cells #[.int .i64 x, .slice A6 n6 c6] TTE)) (Ext.size s1)
                rw [sz1] at X2
                first | refine wpSeqB_call rfl (fun K hK => ?_) | refine wpSeqB_callG rfl rfl (fun K hK => ?_)
                refine wp_appP _ _ (by rfl) wa.heap.size (.slice (some ⟨(wd.heap.size + 1), 0, none⟩) 0 0) [] (by rfl) X2 A2 n2 c2 tf (by rfl) (SL2.out.below (bt Xa.out s2)) (by simp) (by omega) (Ext.size s2) ?_
                intro A7 n7 c7 w7 hO9 hB hG
                rw [List.nil_append] at hO9
                have s9 : Ext wa w7 := Below.trans s2 hB
                have bZ7 : Blk w7 wd.heap.size TTE #[.int .i64 x, .slice A6 n6 c6] := (hG.block _ bZ.lt (by simp [Value.ownBlock])).trans bZ
                have hZ9 : SlP TTE w7 (some ⟨wd.heap.size, 0, none⟩) 1 1 [(x, mkL bs k)] := SlP.one bZ7 (SL6.out.below (bt HXA.out s9))
                refine hK.out _ _ s9 ?_
                clear hK K
                (try simp only [List.getElem_toArray, List.getElem_cons_succ, List.getElem_cons_zero, Act.put, List.setIfInBounds_toArray, List.set_cons_zero, List.set_cons_succ])
                repeat (first | (refine wpSeqB_pure (v := ?_) rfl ?_ ?_; rotate_left 1; (focus (intro wq_ hSq_; (try dsimp only at hSq_); go_simp; (try with_reducible rfl); done)); (try simp only [Act.put, List.setIfInBounds_toArray, List.set_cons_zero, List.set_cons_succ])) | (refine wpSeqB_pureG (v := ?_) rfl rfl ?_ ?_; rotate_left 1; (focus (intro wq_ hSq_; (try dsimp only at hSq_); go_simp; (try with_reducible rfl); done)); (try simp only [Act.put, List.setIfInBounds_toArray, List.set_cons_zero, List.set_cons_succ])) | (refine wpSeqB_off rfl rfl ?_; (try simp only [Act.put, List.setIfInBounds_toArray, List.set_cons_zero, List.set_cons_succ])) | (refine wpSeqB_offU rfl ?_; (try simp only [Act.put, List.setIfInBounds_toArray, List.set_cons_zero, List.set_cons_succ])))
                first | refine wpSeqB_call rfl (fun K hK => ?_) | refine wpSeqB_callG rfl rfl (fun K hK => ?_)
                refine wp_appP _ _ (by rfl) wa.heap.size (.slice A7 n7 c7) tf (by rfl) hO9 (some ⟨wd.heap.size, 0, none⟩) 1 1 [(x, mkL bs k)] (by rfl) hZ9 (by have := HL2.out; omega) (by omega) (Ext.size s9) ?_
                intro A10 n10 c10 w10 hO10 hB10 hG10
                have s10 : Ext wa w10 := Below.trans s9 hB10
                refine hK.out _ _ s10 ?_
                clear hK K
                (try simp only [List.getElem_toArray, List.getElem_cons_succ, List.getElem_cons_zero, Act.put, List.setIfInBounds_toArray, List.set_cons_zero, List.set_cons_succ])
                repeat (first | (refine wpSeqB_pure (v := ?_) rfl ?_ ?_; rotate_left 1; (focus (intro wq_ hSq_; (try dsimp only at hSq_); go_simp; (try with_reducible rfl); done)); (try simp only [Act.put, List.setIfInBounds_toArray, List.set_cons_zero, List.set_cons_succ])) | (refine wpSeqB_pureG (v := ?_) rfl rfl ?_ ?_; rotate_left 1; (focus (intro wq_ hSq_; (try dsimp only at hSq_); go_simp; (try with_reducible rfl); done)); (try simp only [Act.put, List.setIfInBounds_toArray, List.set_cons_zero, List.set_cons_succ])) | (refine wpSeqB_off rfl rfl ?_; (try simp only [Act.put, List.setIfInBounds_toArray, List.set_cons_zero, List.set_cons_succ])) | (refine wpSeqB_offU rfl ?_; (try simp only [Act.put, List.setIfInBounds_toArray, List.set_cons_zero, List.set_cons_succ])))
                first | refine wpSeqB_call rfl (fun K hK => ?_) | refine wpSeqB_callG rfl rfl (fun K hK => ?_)
                go_simp
                refine (rbest_any A1 A10 k c1 n10 c10 wf (tf ++ [(x, mkL bs k)]) w10 (I1.out.below (bt Xa.out s10)) hO10.ts_ (HT.out.below (bt HB1.out (bt Xa.out s10)))).mono ?_
                rintro e w11 ⟨z11, rfl, hz11, b11⟩
                obtain ⟨A12, n12, c12, hv12, _⟩ := hz11.1 HCN.out
                subst hv12
                have s11 : Ext wa w11 := bt s10 b11
                refine hK.out _ _ s11 ?_
                clear hK K
                (try simp only [List.getElem_toArray, List.getElem_cons_succ, List.getElem_cons_zero, Act.put, List.setIfInBounds_toArray, List.set_cons_zero, List.set_cons_succ])
                repeat (first | (refine wpSeqB_pure (v := ?_) rfl ?_ ?_; rotate_left 1; (focus (intro wq_ hSq_; (try dsimp only at hSq_); go_simp; (try with_reducible rfl); done)); (try simp only [Act.put, List.setIfInBounds_toArray, List.set_cons_zero, List.set_cons_succ])) | (refine wpSeqB_pureG (v := ?_) rfl rfl ?_ ?_; rotate_left 1; (focus (intro wq_ hSq_; (try dsimp only at hSq_); go_simp; (try with_reducible rfl); done)); (try simp only [Act.put, List.setIfInBounds_toArray, List.set_cons_zero, List.set_cons_succ])) | (refine wpSeqB_off rfl rfl ?_; (try simp only [Act.put, List.setIfInBounds_toArray, List.set_cons_zero, List.set_cons_succ])) | (refine wpSeqB_offU rfl ?_; (try simp only [Act.put, List.setIfInBounds_toArray, List.set_cons_zero, List.set_cons_succ])))
                first | refine wpSeqB_call rfl (fun K hK => ?_) | refine wpSeqB_callG rfl rfl (fun K hK => ?_)
                go_simp
                refine hK.out _ _ s11 ?_
                clear hK K
                (try simp only [List.getElem_toArray, List.getElem_cons_succ, List.getElem_cons_zero, Act.put, List.setIfInBounds_toArray, List.set_cons_zero, List.set_cons_succ])
                repeat (first | (refine wpSeqB_pure (v := ?_) rfl ?_ ?_; rotate_left 1; (focus (intro wq_ hSq_; (try dsimp only at hSq_); go_simp; (try with_reducible rfl); done)); (try simp only [Act.put, List.setIfInBounds_toArray, List.set_cons_zero, List.set_cons_succ])) | (refine wpSeqB_pureG (v := ?_) rfl rfl ?_ ?_; rotate_left 1; (focus (intro wq_ hSq_; (try dsimp only at hSq_); go_simp; (try with_reducible rfl); done)); (try simp only [Act.put, List.setIfInBounds_toArray, List.set_cons_zero, List.set_cons_succ])) | (refine wpSeqB_off rfl rfl ?_; (try simp only [Act.put, List.setIfInBounds_toArray, List.set_cons_zero, List.set_cons_succ])) | (refine wpSeqB_offU rfl ?_; (try simp only [Act.put, List.setIfInBounds_toArray, List.set_cons_zero, List.set_cons_succ])))
                first | refine wpSeqB_call rfl (fun K hK => ?_) | refine wpSeqB_callG rfl rfl (fun K hK => ?_)
                go_simp
                refine hK.out _ _ s11 ?_
                clear hK K
                (try simp only [List.getElem_toArray, List.getElem_cons_succ, List.getElem_cons_zero, Act.put, List.setIfInBounds_toArray, List.set_cons_zero, List.set_cons_succ])
                repeat (first | (refine wpSeqB_pure (v := ?_) rfl ?_ ?_; rotate_left 1; (focus (intro wq_ hSq_; (try dsimp only at hSq_); go_simp; (try with_reducible rfl); done)); (try simp only [Act.put, List.setIfInBounds_toArray, List.set_cons_zero, List.set_cons_succ])) | (refine wpSeqB_pureG (v := ?_) rfl rfl ?_ ?_; rotate_left 1; (focus (intro wq_ hSq_; (try dsimp only at hSq_); go_simp; (try with_reducible rfl); done)); (try simp only [Act.put, List.setIfInBounds_toArray, List.set_cons_zero, List.set_cons_succ])) | (refine wpSeqB_off rfl rfl ?_; (try simp only [Act.put, List.setIfInBounds_toArray, List.set_cons_zero, List.set_cons_succ])) | (refine wpSeqB_offU rfl ?_; (try simp only [Act.put, List.setIfInBounds_toArray, List.set_cons_zero, List.set_cons_succ])))
                first | refine wpSeqB_call rfl (fun K hK => ?_) | refine wpSeqB_callG rfl rfl (fun K hK => ?_)
                go_simp
                refine hK.out _ _ s11 ?_
                clear hK K
                (try simp only [List.getElem_toArray, List.getElem_cons_succ, List.getElem_cons_zero, Act.put, List.setIfInBounds_toArray, List.set_cons_zero, List.set_cons_succ])
                repeat (first | (refine wpSeqB_pure (v := ?_) rfl ?_ ?_; rotate_left 1; (focus (intro wq_ hSq_; (try dsimp only at hSq_); go_simp; (try with_reducible rfl); done)); (try simp only [Act.put, List.setIfInBounds_toArray, List.set_cons_zero, List.set_cons_succ])) | (refine wpSeqB_pureG (v := ?_) rfl rfl ?_ ?_; rotate_left 1; (focus (intro wq_ hSq_; (try dsimp only at hSq_); go_simp; (try with_reducible rfl); done)); (try simp only [Act.put, List.setIfInBounds_toArray, List.set_cons_zero, List.set_cons_succ])) | (refine wpSeqB_off rfl rfl ?_; (try simp only [Act.put, List.setIfInBounds_toArray, List.set_cons_zero, List.set_cons_succ])) | (refine wpSeqB_offU rfl ?_; (try simp only [Act.put, List.setIfInBounds_toArray, List.set_cons_zero, List.set_cons_succ])))
                intro s_
                refine wpB_end (by kernel_rfl) ?_
                go_wp2_with fail
                go_meet
                exact ⟨⟨_, _, _, rfl⟩, rfl, rfl, s11⟩
            case rest =>
              obtain ⟨⟨A12, n12, c12, rfl⟩, rfl, rfl, hx12⟩ := hcut
              have hle : pC wf (tf ++ [(x, mkL bs k)]) (allS wf) ≤ P := by
                have h1 := more_le HC.out (bs := bs) (x := x) (by rw [HL1.out]; exact HMK.out)
                rw [HL1.out] at h1
                rw [← HP.out]
                exact h1
              obtain ⟨P2, hP2⟩ : ∃ P2, pC wf (tf ++ [(x, mkL bs k)]) (allS wf) = P2 := ⟨_, rfl⟩
              rw [hP2] at hle ⊢
              have hdl : decide (P2 ≤ P) = true := by simpa using hle
              have X12 := Lib.hid (bt HB1.out (bt Xa.out hx12))
              clear kc kr hst hx12 hP2
              go_wp2_with fail
              refine (lives_any wc (HT.out.below X12.out)).mono ?_
              rintro e w13 ⟨z13, rfl, rfl, b13⟩
              have X13 := Lib.hid (bt X12.out b13)
              clear b13
              go_wp2
              go_returns
              exact ⟨_, rfl, rfl, X13.out⟩
end Go.Proofs.Tb
