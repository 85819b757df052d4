/- The reference's Apart: the classes of faults that no test tells apart. -/
import Derived.Test.YtcjddfhhofoidaaDoorGb
import Derived.Test.YtcjddfhhofoidaaDoorGc
set_option linter.unusedVariables false
set_option linter.unusedSimpArgs false
namespace Go.Proofs.Tb
open Go.RowKit
attribute [local go_sem] cell_set_same

theorem stepC_add {td : Int → Int → Bool} {out : List (List Int)} {i : Int} (h : atK td out i out.length < 0) : stepC td out i = out ++ [[i]] := by unfold stepC; rw [if_pos h]
theorem stepC_set {td : Int → Int → Bool} {out : List (List Int)} {i : Int} {a : Nat} (h : atK td out i out.length = (a : Int)) : stepC td out i = out.set a (out.getD a [] ++ [i]) := by
  unfold stepC; rw [h, if_neg (by omega), Int.toNat_natCast]
set_option maxHeartbeats 3200000 in
set_option maxRecDepth 100000 in
theorem zapart_ge (A A' : Option Addr) (n c m d : Nat) (ws : List Int) (ts : List Tt) (w : World) (h : Il w A n c ws) (h' : Ts w A' m d ts) (hn : n ≤ 1000) (hm : m ≤ 1000) :
    Calls Tryd.prog 27 #[.slice A n c, .slice A' m d] w (Ret (fun v w' => ∃ b1, w.heap.size ≤ b1 ∧ OwS w.heap.size b1 w' v (clsT n ts)) w) := by
  have l1 := h.le
  have l1' := h.cap
  have l2 := h'.le
  have l2' := h'.cap
  have HL' := Lib.hid h'.len
  have H' := Lib.hid h'
  clear h h'
  go_enter Tryd.func27, Tryd.ntmps27
  go_wp2_with fail
  have x0 : Ext w (w.alloc (.cells #[] TIS)) := Ext.allocR _ _
  refine (znumbers_any A' m d ts _ (H'.out.below x0) (by omega)).mono ?_
  rintro e w1 ⟨v1, rfl, hv1, b1⟩
  obtain ⟨Ak, mk, ck, rfl, ilk⟩ := hv1.il3
  obtain rfl : m = mk := (upL_len m).symm.trans ilk.len
  have hs0 := (OwS.empty w1.heap.size w).below b1
  have X1 := Lib.hid (bt x0 b1)
  have HLT := Lib.hid (fun g e => hv1.size e : ∀ g, (Value.slice Ak m ck).ownBlock = some g → g < w1.heap.size)
  have hv2 : OwI w.heap.size w1 (.slice Ak m ck) (upL m) := hv1.lower x0.size
  have hk1 := ilk.le
  have hk2 := ilk.cap
  have hsz : w.heap.size ≤ w1.heap.size := X1.out.size
  obtain ⟨td, htd⟩ : ∃ td, tdB ts (upL ts.length) = td := ⟨_, rfl⟩
  have hcl : clsT n ts = apC td n := by unfold clsT; rw [htd]
  have HCL := Lib.hid hcl
  have HTD := Lib.hid (show ∀ a b, tdB ts (upL m) a b = td a b from fun a b => by rw [← htd, HL'.out])
  clear hv1 x0 b1 htd hcl
  go_wp2_with fail
  go_loopw [5, 7] (fun v i wr => ∃ k : Nat, k ≤ n ∧ i = .int .i64 (k : Int) ∧ OwS w.heap.size w1.heap.size wr v (apC td k) ∧ OwI w.heap.size wr (.slice Ak m ck) (upL m) ∧ w1.heap.size ≤ wr.heap.size ∧ Below w.heap.size w wr) (fun _ i _ => n - (intOf i).toNat)
  case atStart => exact ⟨0, by omega, rfl, hs0, hv2, Nat.le_refl _, X1.out⟩
  case round =>
    clear hs0 ilk hv2
    obtain ⟨k, hk, rfl, hown, hil, hsz1, hbw⟩ := hrel
    obtain ⟨A5, c5, rfl, gs5⟩ := hown.gs
    obtain ⟨p, hp⟩ : ∃ p, (apC td k).length = p := ⟨_, rfl⟩
    have hpk : p ≤ k := by rw [← hp]; exact apC_len td k
    rw [hp] at gs5 hown ⊢
    have HS := Lib.hid hown
    have HI := Lib.hid hil
    have HSZ := Lib.hid hsz1
    have HB := Lib.hid hbw
    have HG := Lib.hid gs5
    have HP := Lib.hid hp
    have g5 := gs5.le
    have g5' := gs5.cap
    clear hown hil hbw gs5 hp hsz1
    by_cases hkn : k < n
    · have pk : (k : Int) < (n : Int) := by omega
      obtain ⟨W5, hW5⟩ : ∃ W, W = wr := ⟨_, rfl⟩
      subst hW5
      go_wp2_with fail
      go_loopw [8, 9] (fun a q wr => ∃ q' : Nat, q' ≤ p ∧ a = .int .i64 (atK td (apC td k) k q') ∧ q = .int .i64 (q' : Int) ∧ Ext W5 wr) (fun _ q _ => p - (intOf q).toNat)
      case atStart => exact ⟨0, by omega, rfl, rfl, Ext.refl _⟩
      case round =>
        obtain ⟨q, hq, rfl, rfl, hx⟩ := hrel
        have HX := Lib.hid hx
        by_cases hqp : q < p
        · have pq : (q : Int) < (p : Int) := by omega
          obtain ⟨b5, o5, rfl, hcell⟩ := (HG.out.below hx).at_ (by omega)
          obtain ⟨A6, n6, c6, ck6, il6⟩ := hcell q hqp
          have hql : q < (apC td k).length := by rw [HP.out]; exact hqp
          have eg : (apC td k).getD q [] = (apC td k)[q] := by simp [List.getD, hql]
          have hne := (ClsR.all (p := pat ts) (td := td) (fun a b => by rw [← HTD.out, ← HL'.out]; exact tdB_pat ts a b) k).ne (List.getElem_mem hql)
          have hn6 : 0 < n6 := by
            rw [← il6.len, eg]
            rcases Nat.eq_zero_or_pos (apC td k)[q].length with h | h
            · exact absurd (List.eq_nil_of_length_eq_zero h) hne
            · exact h
          have pn6 : (0 : Int) < (n6 : Int) := by omega
          obtain ⟨b6, o6, rfl, hc6⟩ := il6.at_ hn6
          have ck7 := hc6 0 hn6
          obtain ⟨x, hx0⟩ : ∃ x, ((apC td k).getD q []).getD 0 0 = x := ⟨_, rfl⟩
          rw [hx0, Nat.add_zero] at ck7
          have HX0 := Lib.hid hx0
          clear hcell hc6 il6 hx0 hne eg
          go_wp2_with fail
          refine (ztold_any A' Ak m d m ck ts (upL m) x k _ (H'.out.below (bt HB.out HX.out)) (HI.out.below HX.out).ilv (fun j hj => by rw [show (upL m).getD j 0 = (j : Int) by simp [upL, List.getD, hj]]; omega)).mono ?_
          rintro e w7 ⟨v7, rfl, hv7, b7⟩
          rw [HTD.out] at hv7
          have HX7 := Lib.hid (bt HX.out b7)
          have HA : Hid (atK td (apC td k) k (q + 1) = if td x k then atK td (apC td k) k q else (q : Int)) := show _ = _ by rw [← HX0.out]; rfl
          clear hx b7
          cases htk : td x k with
          | true =>
            rw [htk] at hv7 HA
            subst hv7
            have HA2 : Hid (atK td (apC td k) k (q + 1) = atK td (apC td k) k q) := HA.out
            clear htk HA
            go_wp2
            go_roundw
            case rel => exact ⟨q + 1, by omega, by rw [HA2.out], by go_num, HX7.out⟩
            case measure => simp [intOf]; omega
          | false =>
            rw [htk] at hv7 HA
            subst hv7
            have HA2 : Hid (atK td (apC td k) k (q + 1) = (q : Int)) := HA.out
            clear htk HA
            go_wp2
            go_roundw
            case rel => exact ⟨q + 1, by omega, by rw [HA2.out], by go_num, HX7.out⟩
            case measure => simp [intOf]; omega
        · obtain rfl : q = p := by omega
          have hab := atK_bd td (apC td k) k q
          obtain ⟨a, ha⟩ : ∃ a, atK td (apC td k) k q = a := ⟨_, rfl⟩
          rw [ha] at hab ⊢
          obtain ⟨vs, hvs⟩ := HS.out
          have HV := Lib.hid (hvs.below hx)
          have HI6 := Lib.hid (HI.out.below hx)
          have HB6 := Lib.hid (bt HB.out hx)
          have HS6 := Lib.hid (show w1.heap.size ≤ wr.heap.size from Nat.le_trans HSZ.out hx.size)
          have hvl : vs.length = q := hvs.2.1.trans HP.out
          have HVL := Lib.hid hvl
          by_cases ha0 : a < 0
          · have hst := stepC_add (td := td) (out := apC td k) (i := k) (by rw [HP.out, ha]; exact ha0)
            have HST := Lib.hid (show apC td (k + 1) = apC td k ++ [[(k : Int)]] from hst)
            have r1 := (HV.out.below (Ext.allocR wr (.cells #[.int .i64 (k : Int)] TIN)))
            have r2 := r1.below (Ext.allocR _ (.cells #[.slice (some ⟨wr.heap.size, 0, none⟩) 1 1] TIS))
            have u1 := (OwI.lit1 (x := (k : Int)) HS6.out).below (Ext.allocR (wr.alloc (.cells #[.int .i64 (k : Int)] TIN)) (.cells #[.slice (some ⟨wr.heap.size, 0, none⟩) 1 1] TIS))
            have i1 := (HI6.out.below (Ext.allocR wr (.cells #[.int .i64 (k : Int)] TIN))).below (Ext.allocR _ (.cells #[.slice (some ⟨wr.heap.size, 0, none⟩) 1 1] TIS))
            have e1 : Below w.heap.size w ((wr.alloc (.cells #[.int .i64 (k : Int)] TIN)).alloc (.cells #[.slice (some ⟨wr.heap.size, 0, none⟩) 1 1] TIS)) := bt (bt HB6.out (Ext.allocR wr _)) (Ext.allocR _ _)
            have ds := fun (j g : Nat) (e : (Value.slice (some ⟨wr.heap.size, 0, none⟩) 1 1).ownBlock = some g) (e' : (vs.getD j nlS).ownBlock = some g) => (by
              have h1 := (HV.out.2.2.1 j).size e'
              simp [Value.ownBlock] at e
              omega : False)
            have b2 := cell_new (wr.alloc (.cells #[.int .i64 (k : Int)] TIN)) [.slice (some ⟨wr.heap.size, 0, none⟩) 1 1] TIS
            have sz : (wr.alloc (.cells #[.int .i64 (k : Int)] TIN)).heap.size = wr.heap.size + 1 := by simp
            rw [sz] at b2
            have R1 := Lib.hid (show _ ∧ _ ∧ _ ∧ _ ∧ (∀ j g, _ → _ → False) from ⟨r2, u1, i1, e1, ds⟩)
            have B2 := Lib.hid b2
            have hrow := r2.1
            rw [hvl] at hrow
            have RW := Lib.hid hrow
            clear hst hvs hx ha r1 r2 u1 i1 e1 ds b2 sz hrow
            go_wp2_with (at_builtin; go_loud (refine wp_appE2 TSS TIS _ 1 24 is_info Tryd.underlying45 rfl (by omega) (by omega) rfl _ _ rfl w.heap.size _ q vs rfl RW.out ⟨wr.heap.size + 1, 0, none⟩ 1 1 [.slice (some ⟨wr.heap.size, 0, none⟩) 1 1] rfl rfl B2.out (slc_one _ _ _) (by omega) (by omega) (by have := HB6.out.size; simp; omega) ?_); intro v3 w3 ho3 hb3 hg3 _)
            obtain ⟨r2, u1, i1, e1, ds⟩ := R1.out
            have HN := Lib.hid (show OwS w.heap.size w1.heap.size w3 v3 (apC td (k + 1)) from ⟨_, by rw [HST.out]; exact r2.snoc u1 ds (by rw [HVL.out]; exact ho3) hg3⟩)
            have HNI := Lib.hid (i1.grownT hg3 r2.1 (by decide))
            have HNB := Lib.hid (e1.trans hb3)
            have HNS := Lib.hid (show w1.heap.size ≤ w3.heap.size from Nat.le_trans HS6.out (Nat.le_trans (by simp; omega) hg3.size))
            clear r2 u1 i1 e1 ds ho3 hb3 hg3 R1 RW B2
            go_roundw
            case rel => exact ⟨k + 1, by omega, by go_num, HN.out, HNI.out, HNS.out, HNB.out⟩
            case measure => simp [intOf]; omega
          · obtain ⟨a', ha'⟩ : ∃ a' : Nat, a = (a' : Int) := ⟨a.toNat, by omega⟩
            subst ha'
            have hst := stepC_set (td := td) (out := apC td k) (i := k) (by rw [HP.out, ha])
            have HST := Lib.hid (show apC td (k + 1) = (apC td k).set a' ((apC td k).getD a' [] ++ [(k : Int)]) from hst)
            have hjl : a' < (apC td k).length := by rw [HP.out]; omega
            obtain ⟨q5, rfl⟩ := HV.out.addr (by rw [HP.out]; omega)
            have ck5 := HV.out.cell hjl
            obtain ⟨A8, c8, hv8, il8⟩ := (HV.out.2.2.1 a').il
            obtain ⟨zs, hzs⟩ : ∃ zs, (apC td k).getD a' [] = zs := ⟨_, rfl⟩
            have hzl : zs.length ≤ k := by
              rw [← hzs, show (apC td k).getD a' [] = (apC td k)[a'] by simp [List.getD, hjl]]
              exact (ClsR.all (p := pat ts) (td := td) (fun a b => by rw [← HTD.out, ← HL'.out]; exact tdB_pat ts a b) k).clen (List.getElem_mem hjl)
            obtain ⟨n8, hn8⟩ : ∃ n8, zs.length = n8 := ⟨_, rfl⟩
            rw [hzs, hn8] at hv8
            rw [hn8] at hzl
            rw [hzs] at HST
            have x1 : Ext wr (wr.alloc (.cells #[.int .i64 (k : Int)] TIN)) := Ext.allocR _ _
            have r1 := HV.out.below x1
            have hrow := r1.2.2.1 a'
            rw [hv8, hzs] at hrow
            unfold OwI at hrow
            rw [hn8] at hrow
            rw [hv8] at ck5
            have ck6 := Ext.cell x1 ck5
            have R1 := Lib.hid (And.intro r1 (And.intro hv8 (And.intro (HI6.out.below x1) (And.intro hjl (And.intro hn8 (bt HB6.out x1))))))
            have RW := Lib.hid hrow
            clear hst hvs hx ha x1 r1 hrow il8 hzs hv8 hjl hn8
            go_wp2_with (at_builtin; go_loud (refine wp_appE2 TIS TIN _ 1 8 int_info Tryd.underlying37 rfl (by omega) (by omega) rfl _ _ rfl w1.heap.size _ n8 _ rfl RW.out ⟨wr.heap.size, 0, none⟩ 1 1 [.int .i64 (k : Int)] rfl rfl (cell_new wr [.int .i64 (k : Int)] TIN) (int_one _) (by omega) (by omega) (by have := HS6.out; simp; omega) ?_); intro v3 w3 ho3 hb3 hg3' hd3'; have hg3 : (wr.alloc (.cells #[.int .i64 (k : Int)] TIN)).grownBy w3 (Value.slice A8 n8 c8).ownBlock := hg3'; have hd3 : v3.ownBlock = (Value.slice A8 n8 c8).ownBlock ∨ v3.ownBlock = some (wr.alloc (.cells #[.int .i64 (k : Int)] TIN)).heap.size := hd3'; clear hg3' hd3'; obtain ⟨r1, hv8, i1, hjl, hn8, e1⟩ := R1.out; rw [← hn8] at ho3; have u3 := OwI.snoc ho3; obtain ⟨A9, c9, rfl, _⟩ := u3.il; rw [← hv8] at hg3 hd3; have ro := r1.outer hg3; have cc3 := row_cell ro (show a' < vs.length by rw [HVL.out]; omega); have ff3 := row_free ro a'; have R3 := Lib.hid (And.intro u3 (And.intro hg3 (And.intro hd3 hb3))); clear r1 hv8 i1 hjl hn8 e1 ho3 u3 hg3 hd3 hb3 ro)
            obtain ⟨r1, hv8, i1, hjl, hn8, e1⟩ := R1.out
            obtain ⟨u3, hg3, hd3, hb3⟩ := R3.out
            have ro := r1.outer hg3
            obtain ⟨hq5, cur5, hbk5⟩ := own_blk ro
            have HN := Lib.hid (show OwS w.heap.size w1.heap.size (w3.setCell ⟨q5, a', none⟩ (.slice A9 (zs.length + 1) c9)) (.slice (some ⟨q5, 0, none⟩) q c5) (apC td (k + 1)) from ⟨_, by rw [HST.out]; simp only [List.length_append, List.length_cons, List.length_nil, Nat.zero_add] at u3 hd3; exact r1.put hjl u3 hg3 hd3⟩)
            have i3 := i1.grownB HLT.out hg3 (fun g e => own_geE (r1.2.2.1 a') g e)
            have HNI := Lib.hid (ownsRow_setCell_other i3 (a := ⟨q5, a', none⟩) (own_ne i3 hbk5 (show TIN ≠ TIS by decide)) (.slice A9 (zs.length + 1) c9))
            have HNS := Lib.hid (show w1.heap.size ≤ (w3.setCell ⟨q5, a', none⟩ (.slice A9 (zs.length + 1) c9)).heap.size from Nat.le_trans HS6.out (by have h1 := hb3.size; simp at h1 ⊢; omega))
            have HNB := Lib.hid (Below.setCell (e1.trans (hb3.mono hsz)) hq5 (p := ⟨q5, a', none⟩) (.slice A9 (zs.length + 1) c9))
            clear r1 hv8 i1 hjl hn8 e1 u3 hg3 hd3 hb3 ro hq5 hbk5 i3 R1 R3 RW
            go_roundw
            case rel => exact ⟨k + 1, by omega, by go_num, HN.out, HNI.out, HNS.out, HNB.out⟩
            case measure => simp [intOf]; omega
    · obtain rfl : k = n := by omega
      go_wp2
      go_returns
      exact ⟨_, rfl, ⟨_, hsz, by rw [HCL.out]; exact HS.out⟩, HB.out⟩
theorem zapart_any (A A' : Option Addr) (n c m d : Nat) (ws : List Int) (ts : List Tt) (w : World) (h : Il w A n c ws) (h' : Ts w A' m d ts) (hn : n ≤ 1000) (hm : m ≤ 1000) :
    Calls Tryd.prog 27 #[.slice A n c, .slice A' m d] w (Ret (fun v w' => ∃ b1, OwS w.heap.size b1 w' v (clsT n ts)) w) := by
  refine (zapart_ge A A' n c m d ws ts w h h' hn hm).mono ?_
  rintro e w1 ⟨v, rfl, ⟨b1, _, hs⟩, hb⟩
  exact ⟨v, rfl, ⟨b1, hs⟩, hb⟩
end Go.Proofs.Tb
