/- ProbeFloor returns true. -/
import Derived.Test.YtcjddfhhofoidaaDoorFlb
import Derived.Test.YtcjddfhhofoidaaDoorRc
import Derived.Deep.CutBlock
set_option linter.unusedVariables false
set_option linter.unusedSimpArgs false
namespace Go.Proofs.Tb
open Go.RowKit
attribute [local go_sem] cell_set_same

theorem hr3 {w0 w1 w2 S : Int} {b : Tt} {ls : List Int} (h : HRk [w0, w1, w2] 2 [b] ls S) : S = (w0 + w1 + w2) + (w1 + w2) ∨ S = (w0 + w1 + w2) + (w0 + w2) ∨ S = (w0 + w1 + w2) + (w0 + w1) := by
  obtain ⟨bs0, ls0, S0, a, b', r, ⟨bs1, ls1, S1, a0, b0, r0, ⟨rfl, rfl, rfl⟩, hp0, _, e1, e2, e3⟩, hp, _, f1, f2, f3⟩ := h
  have hs0 := sumI_perm (hp0.map fun b => b.1)
  have hs := sumI_perm (hp.map fun b => b.1)
  have hl0 := hp0.length_eq
  have hl := hp.length_eq
  have hlv : leavesL [w0, w1, w2] = [(w0, [0]), (w1, [1]), (w2, [2])] := rfl
  rw [hlv] at hs0 hl0 hp0
  obtain ⟨z, rfl⟩ : ∃ z, r0 = [z] := by
    cases r0 with
    | nil => simp at hl0
    | cons z t => cases t with
      | nil => exact ⟨z, rfl⟩
      | cons y t => simp at hl0
  subst e1
  obtain rfl : r = [] := by
    cases r with
    | nil => rfl
    | cons y t => simp at hl
  simp at hs0 hs
  have hz : z ∈ [((w0, [0]) : Tt), (w1, [1]), (w2, [2])] := hp0.subset (by simp)
  simp at hz
  rcases hz with rfl | rfl | rfl
  · left; simp only at hs hs0; omega
  · right; left; simp only at hs hs0; omega
  · right; right; simp only at hs hs0; omega
/-- Three faults, and a test for each. -/
def ws3 (w0 w1 w2 : Int) : List Int := [w0, w1, w2]
def ts3 (c : Int) : List Tt := [(c, [0]), (c, [1]), (c, [2])]
variable {w0 w1 w2 c : Int}
theorem cv3 (h0 : 1 ≤ w0 ∧ w0 ≤ 1000) (h1 : 1 ≤ w1 ∧ w1 ≤ 1000) (h2 : 1 ≤ w2 ∧ w2 ≤ 1000) (hc : 0 ≤ c ∧ c ≤ 1000) : Cv (ws3 w0 w1 w2) (ts3 c) := by
  refine ⟨⟨by simp [ws3], by simp [ws3], by simp [ts3]⟩, fun j hj => ?_, fun j hj => ?_⟩
  · simp only [ws3, List.length_cons, List.length_nil] at hj
    obtain rfl | rfl | rfl : j = 0 ∨ j = 1 ∨ j = 2 := by omega
    · exact h0
    · exact h1
    · exact h2
  · simp only [ts3, List.length_cons, List.length_nil] at hj
    obtain rfl | rfl | rfl : j = 0 ∨ j = 1 ∨ j = 2 := by omega
    all_goals
      refine ⟨hc, fun k hk => ?_⟩
      obtain rfl : k = 0 := by simp [tS, ts3] at hk; exact hk
      exact ⟨by simp [prv, tS, ts3], by simp [tS, ts3, ws3]⟩
theorem sh3 {i : Nat} (hi : i < 3) : ((tsN (ts3 c)).getD i (0, 0)).2 = 2 ^ i := by
  rw [tsN_get]
  obtain rfl | rfl | rfl : i = 0 ∨ i = 1 ∨ i = 2 := by omega
  all_goals simp [tS, ts3, setK]
theorem min3 (h : Cv (ws3 w0 w1 w2) (ts3 c)) {s i a b : Nat} (hi : i < 3) (ha : inn s (2 ^ i) = a) (hb : outs s (2 ^ i) = b) (h0 : a ≠ 0 ∧ b ≠ 0) :
    pC (ws3 w0 w1 w2) (ts3 c) s ≤ c * pW (ws3 w0 w1 w2) s + pC (ws3 w0 w1 w2) (ts3 c) a + pC (ws3 w0 w1 w2) (ts3 c) b := by
  subst ha hb
  have h1 := pC_min h (i := i) (s := s) hi (by unfold spl; rw [sh3 hi]; exact h0)
  rw [sh3 hi] at h1
  obtain rfl | rfl | rfl : i = 0 ∨ i = 1 ∨ i = 2 := by omega
  all_goals exact h1
theorem one3 (h : Cv (ws3 w0 w1 w2) (ts3 c)) {s : Nat} (hs : s = 1 ∨ s = 2 ∨ s = 4) : pC (ws3 w0 w1 w2) (ts3 c) s = 0 := by
  rcases hs with rfl | rfl | rfl
  · exact pC_none h (by simp [ws3]) (by rw [show (ws3 w0 w1 w2).length = 3 from rfl, show mems 3 1 = [0] by decide]; simp [ts3, spB, shB])
  · exact pC_none h (by simp [ws3]) (by rw [show (ws3 w0 w1 w2).length = 3 from rfl, show mems 3 2 = [1] by decide]; simp [ts3, spB, shB])
  · exact pC_none h (by simp [ws3]) (by rw [show (ws3 w0 w1 w2).length = 3 from rfl, show mems 3 4 = [2] by decide]; simp [ts3, spB, shB])
theorem wt3 (h : Cv (ws3 w0 w1 w2) (ts3 c)) : pW (ws3 w0 w1 w2) 7 = w0 + w1 + w2 ∧ pW (ws3 w0 w1 w2) 6 = w1 + w2 ∧ pW (ws3 w0 w1 w2) 5 = w0 + w2 ∧ pW (ws3 w0 w1 w2) 3 = w0 + w1 := by
  have m7 : mems 3 7 = [0, 1, 2] := rfl
  have m6 : mems 3 6 = [1, 2] := rfl
  have m5 : mems 3 5 = [0, 2] := rfl
  have m3 : mems 3 3 = [0, 1] := rfl
  have hl : (ws3 w0 w1 w2).length = 3 := rfl
  refine ⟨?_, ?_, ?_, ?_⟩ <;> rw [pW_wS h, hl]
  · rw [m7]; simp [wS, ws3]; omega
  · rw [m6]; simp [wS, ws3]
  · rw [m5]; simp [wS, ws3]
  · rw [m3]; simp [wS, ws3]
theorem cl3 : clsT 3 (ts3 c) = [[0], [1], [2]] := by rfl
theorem floor3 (h : Cv (ws3 w0 w1 w2) (ts3 c)) {x : Int} (hx : FlP (ws3 w0 w1 w2) (ts3 c) x) : x = pC (ws3 w0 w1 w2) (ts3 c) (allS (ws3 w0 w1 w2)) := by
  have hc0 := (cost_bd h 0).1
  have hc0 : 0 ≤ c := hc0
  have hle := floor_le h hx
  have hal : allS (ws3 w0 w1 w2) = 7 := rfl
  rw [hal] at hle ⊢
  have hls : lsK 3 (ts3 c) 3 = c := by
    have a1 : lsK 3 (ts3 c) 1 = c := lsK_on (k := 0) (ts := ts3 c) (by simp [tS, ts3]) (by simp [tS, ts3]) (Or.inl (by simp [lsK]))
    have a2 : lsK 3 (ts3 c) 2 = c := by
      rw [lsK_off (k := 1), a1]
      rw [a1]
      rintro ⟨_, h1 | h1⟩
      · omega
      · have : tC (ts3 c) 1 = c := rfl
        omega
    rw [lsK_off (k := 2), a2]
    rw [a2]
    rintro ⟨_, h1 | h1⟩
    · omega
    · have : tC (ts3 c) 2 = c := rfl
      omega
  obtain ⟨t7, t6, t5, t3⟩ := wt3 h
  rcases hx with ⟨h1, _⟩ | ⟨_, b, ls, S, hr, rfl⟩
  · have e : lsK (ws3 w0 w1 w2).length (ts3 c) (ts3 c).length = c := hls
    omega
  · have e : lsK (ws3 w0 w1 w2).length (ts3 c) (ts3 c).length = c := hls
    rw [e] at hle ⊢
    have hcl : clsT (ws3 w0 w1 w2).length (ts3 c) = [[0], [1], [2]] := cl3
    have hW : clW (ws3 w0 w1 w2) [[0], [1], [2]] = [w0, w1, w2] := by simp [clW, wS, ws3]
    rw [hcl, hW] at hr
    have hr2 : HRk [w0, w1, w2] 2 [b] ls S := hr
    refine Int.le_antisymm hle.2 ?_
    rcases hr3 hr2 with rfl | rfl | rfl
    · have b1 := min3 h (s := 7) (i := 0) (a := 1) (b := 6) (by omega) rfl rfl (by omega)
      have b2 := min3 h (s := 6) (i := 1) (a := 2) (b := 4) (by omega) rfl rfl (by omega)
      rw [one3 h (Or.inl rfl), t7] at b1
      rw [one3 h (Or.inr (Or.inl rfl)), one3 h (Or.inr (Or.inr rfl)), t6] at b2
      rw [Int.add_mul, Int.mul_comm _ c, Int.mul_comm _ c]
      omega
    · have b1 := min3 h (s := 7) (i := 1) (a := 2) (b := 5) (by omega) rfl rfl (by omega)
      have b2 := min3 h (s := 5) (i := 0) (a := 1) (b := 4) (by omega) rfl rfl (by omega)
      rw [one3 h (Or.inr (Or.inl rfl)), t7] at b1
      rw [one3 h (Or.inl rfl), one3 h (Or.inr (Or.inr rfl)), t5] at b2
      rw [Int.add_mul, Int.mul_comm _ c, Int.mul_comm _ c]
      omega
    · have b1 := min3 h (s := 7) (i := 2) (a := 4) (b := 3) (by omega) rfl rfl (by omega)
      have b2 := min3 h (s := 3) (i := 0) (a := 1) (b := 2) (by omega) rfl rfl (by omega)
      rw [one3 h (Or.inr (Or.inr rfl)), t7] at b1
      rw [one3 h (Or.inl rfl), one3 h (Or.inr (Or.inl rfl)), t3] at b2
      rw [Int.add_mul, Int.mul_comm _ c, Int.mul_comm _ c]
      omega
abbrev T3I : TypeId := 77
theorem and511 (y : Int) : ∃ b : Nat, b ≤ 511 ∧ bits .and .i64 y 511 = (b : Int) := by
  have e : bits .and .i64 y 511 = IntKind.i64.wrap ((BitVec.ofInt 64 y &&& BitVec.ofInt 64 511).toNat : Int) := rfl
  have h : (BitVec.ofInt 64 y &&& BitVec.ofInt 64 511).toNat ≤ 511 := by
    rw [BitVec.toNat_and]
    exact Nat.and_le_right
  refine ⟨_, h, ?_⟩
  rw [e, IntWalk.i64_in _ (by omega)]
theorem OwP.grownF {T T' : TypeId} {base b0 k n : Nat} {w w' : World} {v z : Value} {bs : List Tt} {zs : List Value} (h : OwP T base w v bs) (hz : w.ownsRow b0 T' k z n zs) (hg : w.grownBy w' z.ownBlock) (hT : T' ≠ T) (hI : T' ≠ TIN) : OwP T base w' v bs := by
  obtain ⟨d, h1, h2⟩ := h
  refine ⟨d, h1.kept hg ?_, h2.imp fun _ _ hs => hs.grown hg (own_tag hz hI)⟩
  rcases h1.2 with ⟨e, _⟩ | ⟨g, cap, cur, e, hb, hh, _⟩
  · left; rw [e]; rfl
  · right
    rw [e]
    intro e2
    exact own_tag hz hT g e2.symm _ _ hh
theorem ic_app3 (a b : List Int) : ic (a ++ b) = ic a ++ ic b := by unfold ic; rw [List.map_append]
theorem ws3_get (a b c : Int) {k : Nat} (hk : k < 3) : (ws3 a b c).take (k + 1) = (ws3 a b c).take k ++ [(ws3 a b c).getD k 0] := by
  have h : k < (ws3 a b c).length := hk
  rw [List.take_succ_eq_append_getElem h]
  simp [List.getD, h]
theorem ts3_get (c : Int) {k : Nat} (hk : k < 3) : (ts3 c).take (k + 1) = (ts3 c).take k ++ [(c, [(k : Int)])] := by
  obtain rfl | rfl | rfl : k = 0 ∨ k = 1 ∨ k = 2 := by omega
  all_goals rfl
set_option maxHeartbeats 6400000 in
set_option maxRecDepth 100000 in
theorem lawfloor_any (A A' : Option Addr) (n c m d : Nat) (x0 x1 x2 y : Int) (ws : List Int) (ts : List Tt) (w : World) (h : Il w A n c ws) (h' : Ts w A' m d ts) (ht : Tab w) :
    Calls Tryd.prog 11 #[.agg #[.slice A n c, .slice A' m d], .agg #[.int .i64 x0, .int .i64 x1, .int .i64 x2], .int .i64 y] w (Ret (fun v _ => v = .bool true) w) := by
  have H := Lib.hid h
  have H' := Lib.hid h'
  have HT := Lib.hid ht
  clear h h' ht
  go_enter Tryd.func11, Tryd.ntmps11
  go_upto_region 1 with fail
  refine wp_world (fun W0 => Blk W0 w.heap.size TCA #[.slice A n c, .slice A' m d] ∧ Blk W0 (w.heap.size + 1) T3I #[.int .i64 x0, .int .i64 x1, .int .i64 x2] ∧ Below w.heap.size w W0) (by exact ⟨(Blk.new_ _ _ rfl).alloc _, Blk.new_ _ _ (by simp), by go_grown⟩) ?_
  rintro W0 ⟨bX, bA, hbw⟩
  obtain ⟨pX, hpX⟩ : ∃ p, w.heap.size = p := ⟨_, rfl⟩
  have x0' : Ext w W0 := hbw
  rw [hpX] at bX bA ⊢
  have cX := bX.cells
  simp only [cellsAre, Nat.zero_add, Nat.reduceAdd, and_true] at cX
  have BA0 := Lib.hid bA
  clear bX bA hbw hpX
  go_wp2_with fail
  refine (few_any A A' n c m d ws ts 10 16 (by omega) (by omega) _ (H.out.below x0') (H'.out.below x0')).mono ?_
  rintro e w1 ⟨v1, rfl, ⟨vf, vt, rfl, hf, ht⟩, hb1⟩
  obtain ⟨A1, n1, c1, hvf, il1⟩ := hf.il
  subst hvf
  obtain ⟨A2, n2, c2, hvt, sl2⟩ := ht.slp2
  subst hvt
  have ts2 := sl2.ts
  obtain ⟨wf, hwf⟩ : ∃ x, fewF ws 10 = x := ⟨_, rfl⟩
  obtain ⟨tf, htf⟩ : ∃ x, fewT ts 16 = x := ⟨_, rfl⟩
  rw [hwf] at il1
  rw [htf] at ts2
  have l1 := il1.le
  have l1' := il1.cap
  have l2 := ts2.le
  have l2' := ts2.cap
  have I1 := Lib.hid il1
  have T2 := Lib.hid ts2
  have BA1 := Lib.hid (BA0.out.below hb1)
  have HB1 := Lib.hid (bt x0' hb1)
  clear hf ht sl2 il1 ts2 hwf htf x0' hb1 cX BA0
  go_upto_region 2 with fail
  have b3 : Blk (w1.alloc (.cells #[.slice A1 n1 c1, .slice A2 n2 c2] TCA)) w1.heap.size TCA #[.slice A1 n1 c1, .slice A2 n2 c2] := Blk.new_ _ _ rfl
  have x3 : Ext w1 (w1.alloc (.cells #[.slice A1 n1 c1, .slice A2 n2 c2] TCA)) := Ext.allocR _ _
  refine wp_world (fun W3 => Blk W3 w1.heap.size TCA #[.slice A1 n1 c1, .slice A2 n2 c2] ∧ Ext w1 W3) ⟨b3, x3⟩ ?_
  clear b3 x3
  rintro W3 ⟨b3, x3⟩
  obtain ⟨g, hg⟩ : ∃ g, w1.heap.size = g := ⟨_, rfl⟩
  rw [hg] at b3 ⊢
  have B3 := Lib.hid b3
  have X3 := Lib.hid x3
  have c3 := b3.cells
  simp only [cellsAre, Nat.zero_add, Nat.reduceAdd, and_true] at c3
  clear b3 x3 hg
  go_wp2_with fail
  refine (valid_any A1 A2 n1 c1 n2 c2 wf tf W3 (I1.out.below X3.out) (T2.out.below X3.out)).mono ?_
  rintro e w4 ⟨v4, rfl, hv4, hb4⟩
  subst hv4
  obtain ⟨vb, hvb⟩ : ∃ vb, cvB wf tf = vb := ⟨_, rfl⟩
  rw [hvb]
  have HVB := Lib.hid hvb
  have X4 := Lib.hid (bt X3.out hb4)
  have B4 := Lib.hid (B3.out.below hb4)
  have k4 := B4.out.cells
  simp only [cellsAre, Nat.zero_add, Nat.reduceAdd, and_true] at k4
  clear c3 B3 hb4 hvb
  go_upto_if 23 with fail
  go_cut [] (fun wx => Ext w4 wx)
  case first =>
    by_cases hc : Cv wf tf
    rotate_left
    · obtain rfl : vb = false := by rw [← HVB.out]; exact cvB_f hc
      go_wp2_with fail
      go_meet
      exact Ext.refl _
    · obtain rfl : vb = true := by rw [← HVB.out]; exact cvB_t hc
      have HC := Lib.hid hc
      clear hc
      go_wp2_with fail
      refine (rbest_any A1 A2 n1 c1 n2 c2 wf tf w4 (I1.out.below X4.out) (T2.out.below X4.out) (HT.out.below (bt HB1.out X4.out))).mono ?_
      rintro e w5 ⟨v5, rfl, hv5, hb5⟩
      obtain ⟨A7, n7, c7, hv5', _⟩ := hv5.1 HC.out
      subst hv5'
      obtain ⟨P, hP⟩ : ∃ P, pC wf tf (allS wf) = P := ⟨_, rfl⟩
      rw [hP]
      have HP := Lib.hid hP
      have X5 := Lib.hid (show Ext w4 w5 from hb5)
      have k5 := (B4.out.below hb5).cells
      simp only [cellsAre, Nat.zero_add, Nat.reduceAdd, and_true] at k5
      clear hv5 hb5 hP k4
      go_wp2_with fail
      refine (rfloor_any A1 A2 n1 c1 n2 c2 wf tf w5 (I1.out.below (bt X4.out X5.out)) (T2.out.below (bt X4.out X5.out))).mono ?_
      rintro e w6 ⟨v6, rfl, hv6, hb6⟩
      obtain ⟨x, hv6', hfl⟩ := hv6.1 HC.out
      subst hv6'
      have hle := floor_le HC.out hfl
      rw [HP.out] at hle
      obtain ⟨hx0, hxP⟩ := hle
      have hx1 : ¬ (x < 0) := by omega
      have hx2 : ¬ (P < x) := by omega
      have X6 := Lib.hid (bt X5.out hb6)
      clear hv6 hb6 hfl k5
      go_wp2_with fail
      go_meet
      exact X6.out
  case rest =>
    have XC := Lib.hid (bt X4.out hcut)
    have HBC := Lib.hid (bt HB1.out (bt X4.out hcut))
    have BAC := Lib.hid (BA1.out.below (bt X4.out hcut))
    clear hcut k4
    go_upto_region 9 with fail
    obtain ⟨cn, hcn, hce⟩ := and511 y
    rw [hce]
    have b9 : Blk (wc.alloc (.cells #[.slice none 0 0, .slice none 0 0] TCA)) wc.heap.size TCA #[.slice none 0 0, .slice none 0 0] := Blk.new_ _ _ rfl
    have x9 : Ext wc (wc.alloc (.cells #[.slice none 0 0, .slice none 0 0] TCA)) := Ext.allocR _ _
    refine wp_world (fun W1 => Blk W1 wc.heap.size TCA #[.slice none 0 0, .slice none 0 0] ∧ Ext wc W1) ⟨b9, x9⟩ ?_
    clear b9 x9 hce
    rintro W5 ⟨b9, x9⟩
    obtain ⟨g2, hg2⟩ : ∃ p, wc.heap.size = p := ⟨_, rfl⟩
    have hx9 : Below g2 wc W5 := by rw [← hg2]; exact x9
    rw [hg2] at b9 ⊢
    obtain ⟨v0, hv0, hb0⟩ := and511 x0
    obtain ⟨v1, hv1, hb1⟩ := and511 x1
    obtain ⟨v2, hv2, hb2⟩ := and511 x2
    have HBITS := Lib.hid (And.intro hb0 (And.intro hb1 hb2))
    have HG2 := Lib.hid hg2
    have HS := Lib.hid (show Blk W5 g2 TCA #[.slice none 0 0, .slice none 0 0] ∧ OwT TFA g2 W5 (.slice none 0 0) ((ws3 ((v0 : Int) + 1) ((v1 : Int) + 1) ((v2 : Int) + 1)).take 0) ∧ OwP TTE g2 W5 (.slice none 0 0) ((ts3 (cn : Int)).take 0) ∧ Below g2 wc W5 from ⟨b9, ⟨rfl, Or.inl ⟨rfl, rfl⟩⟩, OwP.nil _ _ _, hx9⟩)
    obtain ⟨WS, hWS⟩ : ∃ WS, ws3 ((v0 : Int) + 1) ((v1 : Int) + 1) ((v2 : Int) + 1) = WS := ⟨_, rfl⟩
    rw [hWS] at HS
    have HWS := Lib.hid hWS
    clear b9 x9 hx9 hg2 hb0 hb1 hb2 hWS
    go_wp2_with fail
    go_loopw [14] (fun i wr => ∃ (k : Nat) (A3 : Option Addr) (n3 c3 : Nat) (A4 : Option Addr) (n4 c4 : Nat), k ≤ 3 ∧ i = .int .i64 (k : Int) ∧ Blk wr g2 TCA #[.slice A3 n3 c3, .slice A4 n4 c4] ∧ OwT TFA g2 wr (.slice A3 n3 c3) (WS.take k) ∧ OwP TTE g2 wr (.slice A4 n4 c4) ((ts3 (cn : Int)).take k) ∧ Below g2 wc wr) (fun i _ => 3 - (intOf i).toNat)
    case atStart => exact ⟨0, _, _, _, _, _, _, by omega, rfl, HS.out⟩
    case round =>
      clear HS
      obtain ⟨k, A3, n3, c3, A4, n4, c4, hk, rfl, bY, hot, hop, hbw⟩ := hrel
      have HBB := Lib.hid (And.intro bY (And.intro hot (And.intro hop hbw)))
      have hxw : Ext wc wr := by show Below wc.heap.size wc wr; rw [HG2.out]; exact hbw
      by_cases hk3 : k < 3
      · have pk : (k : Int) < 3 := by omega
        obtain ⟨x, v, hxc, hvb, hv511, hwg⟩ : ∃ (x : Int) (v : Nat), (#[Value.int .i64 x0, .int .i64 x1, .int .i64 x2] : Array Value)[k]? = some (.int .i64 x) ∧ bits .and .i64 x 511 = (v : Int) ∧ v ≤ 511 ∧ WS.getD k 0 = (v : Int) + 1 := by
          rw [← HWS.out]
          obtain rfl | rfl | rfl : k = 0 ∨ k = 1 ∨ k = 2 := by omega
          · exact ⟨x0, v0, rfl, HBITS.out.1, hv0, rfl⟩
          · exact ⟨x1, v1, rfl, HBITS.out.2.1, hv1, rfl⟩
          · exact ⟨x2, v2, rfl, HBITS.out.2.2, hv2, rfl⟩
        obtain ⟨V, hV⟩ : ∃ V : Int, (v : Int) + 1 = V := ⟨_, rfl⟩
        have wq : IntKind.i64.wrap ((v : Int) + 1) = V := by rw [IntWalk.i64_in _ (by omega), hV]
        rw [hV] at hwg
        have HTW := Lib.hid (show WS.take (k + 1) = WS.take k ++ [V] by rw [← hwg, ← HWS.out]; exact ws3_get _ _ _ hk3)
        have HTT := Lib.hid (ts3_get (cn : Int) hk3)
        have kA := fun w' (hh : Ext wr w') => (show w'.cell? ⟨pX + 1, k, none⟩ = some (.int .i64 x) by rw [← hxc]; exact cell_of_row _ _ k _ T3I (0, 0) (BAC.out.below (bt hxw hh)))
        have kY := fun w' (hh : Ext wr w') => (bY.below hh).cells
        simp only [cellsAre, Nat.zero_add, Nat.reduceAdd, and_true] at kY
        have hst : Ext wr wr.drew := Ext.drew _
        clear bY hot hop hbw hxc hwg hV
        go_upto_region 12 with fail
        refine wp_region_adv 9 [] [(0, true, some 63, none), (1, true, some 64, none), (2, true, some 65, none), (3, true, some 66, none), (4, true, some 67, none), (5, true, some 68, none), (6, true, some 69, none), (7, true, some 70, none), (8, false, some 71, none)] (by kernel_rfl) (by kernel_rfl) (by kernel_rfl) (by intro it hit; (repeat (rcases List.mem_cons.1 hit with rfl | hit; (focus (intro o ho ev w; injection ho with ho; subst ho; kernel_rfl)))); cases hit) (fun _ _ _ _ _ => ⟨fun h => h, fun h => h⟩) hst ?_
        repeat (first | (refine wpSeq_pure (v := ?_) rfl ?_ ?_; rotate_left 1; (focus (intro wq_ hSq_; (try dsimp only at hSq_); go_simp; (try with_reducible rfl); done)); (try simp only [Act.put, List.setIfInBounds_toArray, List.set_cons_zero, List.set_cons_succ])) | (refine wpSeq_pureG (v := ?_) rfl rfl ?_ ?_; rotate_left 1; (focus (intro wq_ hSq_; (try dsimp only at hSq_); go_simp; (try with_reducible rfl); done)); (try simp only [Act.put, List.setIfInBounds_toArray, List.set_cons_zero, List.set_cons_succ])) | (refine wpSeq_off rfl rfl ?_; (try simp only [Act.put, List.setIfInBounds_toArray, List.set_cons_zero, List.set_cons_succ])))
        first | refine wpSeq_call rfl (fun u1 g1 s1 K hK => ?_) | refine wpSeq_callG rfl rfl (fun u1 g1 s1 K hK => ?_)
        go_simp
        (try go_wp2_with fail)
        refine hK.out _ _ (Ext.allocR _ _) ?_
        clear hK K
        (try simp only [Act.put, List.setIfInBounds_toArray, List.set_cons_zero, List.set_cons_succ])
        repeat (first | (refine wpSeq_pure (v := ?_) rfl ?_ ?_; rotate_left 1; (focus (intro wq_ hSq_; (try dsimp only at hSq_); go_simp; (try with_reducible rfl); done)); (try simp only [Act.put, List.setIfInBounds_toArray, List.set_cons_zero, List.set_cons_succ])) | (refine wpSeq_pureG (v := ?_) rfl rfl ?_ ?_; rotate_left 1; (focus (intro wq_ hSq_; (try dsimp only at hSq_); go_simp; (try with_reducible rfl); done)); (try simp only [Act.put, List.setIfInBounds_toArray, List.set_cons_zero, List.set_cons_succ])) | (refine wpSeq_off rfl rfl ?_; (try simp only [Act.put, List.setIfInBounds_toArray, List.set_cons_zero, List.set_cons_succ])))
        intro wz gz sz_
        (try simp only [endJ, List.drop_succ_cons, List.drop_zero])
        obtain ⟨bY, hot, hop, hbw⟩ := HBB.out
        have HBN := Lib.hid (show Blk wz u1.heap.size TFA #[.int .i64 V] from (Blk.new_ TFA #[.int .i64 V] rfl).below gz)
        have hgr : g2 ≤ wr.heap.size := by have h1 := HG2.out; have h2 := hxw.size; omega
        have hgw : g2 ≤ wz.heap.size := Nat.le_trans hgr (Ext.size sz_)
        have HZ := Lib.hid (And.intro (bY.below sz_) (And.intro (hot.below sz_) (And.intro (hop.below sz_) (hbw.trans (Below.mono sz_ hgr)))))
        have HTG := Lib.hid (own_tag (T' := TCA) (hot.below sz_) (by decide))
        have HLN := Lib.hid (show (WS.take k).length ≤ 1000 by rw [List.length_take]; omega)
        clear hst kA kY g1 s1 gz sz_ bY hot hop hbw HBB hxw
        go_upto_region 13 with (at_builtin; refine wp_appE TFS TFA _ 1 8 fa_info Tryd.underlying22 rfl (by omega) (by omega) rfl _ _ rfl g2 (.slice A3 n3 c3) _ _ rfl HZ.out.2.1 ⟨u1.heap.size, 0, none⟩ 1 1 [.int .i64 V] rfl rfl (blk_cells HBN.out) (int_one _) (by have := HLN.out; omega) (by omega) hgw ?_; intro v6 w6 hown6 hb6 hg6; have hn6 : OwT TFA g2 w6 v6 (WS.take (k + 1)) := (by rw [HTW.out]; exact OwT.mk (n := (WS.take k).length + 1) (by rw [List.length_append]; rfl) (by rw [ic_app3]; exact hown6)); obtain ⟨A7, n7, c7, hv7, _⟩ := hn6.il; subst hv7; have bY6 := HZ.out.1.grown hg6 HTG.out; have oP6 := HZ.out.2.2.1.grownF HZ.out.2.1 hg6 (by decide) (by decide); have cY6 := bY6.cells; have fY6 := Blk.free bY6 0; have HE := Lib.hid (And.intro bY6 (And.intro hn6 (And.intro oP6 (And.intro (HZ.out.2.2.2.trans hb6) (show g2 ≤ w6.heap.size from Nat.le_trans hgw hg6.size))))); simp only [cellsAre, Nat.zero_add, Nat.reduceAdd, and_true] at cY6; clear bY6 hn6 oP6 hown6 hb6 hg6)
        have hW7 : Blk (w6.setCell ⟨g2, 0, none⟩ (.slice A7 n7 c7)) g2 TCA #[.slice A7 n7 c7, .slice A4 n4 c4] ∧ OwT TFA g2 (w6.setCell ⟨g2, 0, none⟩ (.slice A7 n7 c7)) (.slice A7 n7 c7) (WS.take (k + 1)) ∧ OwP TTE g2 (w6.setCell ⟨g2, 0, none⟩ (.slice A7 n7 c7)) (.slice A4 n4 c4) ((ts3 (cn : Int)).take k) ∧ Below g2 wc (w6.setCell ⟨g2, 0, none⟩ (.slice A7 n7 c7)) ∧ g2 ≤ (w6.setCell ⟨g2, 0, none⟩ (.slice A7 n7 c7)).heap.size := by
          obtain ⟨e1, e2, e3, e4, e5⟩ := HE.out
          exact ⟨e1.set_ 0 _, e2.far e1 (by decide) 0 _, e3.far e1 (by decide) (by decide) 0 _, e4.setCell (Nat.le_refl _) _, by simpa using e5⟩
        refine wp_world (fun W7 => Blk W7 g2 TCA #[.slice A7 n7 c7, .slice A4 n4 c4] ∧ OwT TFA g2 W7 (.slice A7 n7 c7) (WS.take (k + 1)) ∧ OwP TTE g2 W7 (.slice A4 n4 c4) ((ts3 (cn : Int)).take k) ∧ Below g2 wc W7 ∧ g2 ≤ W7.heap.size) hW7 ?_
        clear hW7 HE cY6 fY6 HZ HTG HBN
        rintro W7 ⟨bY7, hot7, hop7, hbw7, hsz7⟩
        have xa : Ext W7 (W7.alloc (.cells #[.int .i64 (k : Int)] TIN)) := Ext.allocR _ _
        have xb : Ext W7 ((W7.alloc (.cells #[.int .i64 (k : Int)] TIN)).alloc (.cells #[.int .i64 (cn : Int), .slice (some ⟨W7.heap.size, 0, none⟩) 1 1] TTE)) := bt xa (Ext.allocR _ _)
        have hsl := ((OwI.lit1 (base := W7.heap.size) (w := W7) (x := (k : Int)) (Nat.le_refl _)).sl).below (Ext.allocR _ (.cells #[.int .i64 (cn : Int), .slice (some ⟨W7.heap.size, 0, none⟩) 1 1] TTE))
        obtain ⟨d4, hr4, hp4⟩ := hop7.below xb
        have hdl := hp4.len
        have hdl2 : d4.length ≤ 100 := by rw [hdl, List.length_take]; omega
        have hgw4 : g2 ≤ ((W7.alloc (.cells #[.int .i64 (k : Int)] TIN)).alloc (.cells #[.int .i64 (cn : Int), .slice (some ⟨W7.heap.size, 0, none⟩) 1 1] TTE)).heap.size := Nat.le_trans hsz7 (Ext.size xb)
        have hcn1 := cell_new (W7.alloc (.cells #[.int .i64 (k : Int)] TIN)) [.int .i64 (cn : Int), .slice (some ⟨W7.heap.size, 0, none⟩) 1 1] TTE
        rw [show (W7.alloc (.cells #[.int .i64 (k : Int)] TIN)).heap.size = W7.heap.size + 1 by simp] at hcn1
        have HCN := Lib.hid hcn1
        have HR := Lib.hid (And.intro hr4 (And.intro hp4 hsl))
        have HTG := Lib.hid (own_tag (T' := TCA) hr4 (by decide))
        have HTG2 := Lib.hid (own_tag (T' := TFA) hr4 (by decide))
        have HY7 := Lib.hid (And.intro (bY7.below xb) (And.intro (hot7.below xb) (hbw7.trans (Below.mono xb hsz7))))
        have cY7 := bY7.cells
        simp only [cellsAre, Nat.zero_add, Nat.reduceAdd, and_true] at cY7
        have cY8 := (bY7.below xa).cells
        have cY9 := (bY7.below xb).cells
        simp only [cellsAre, Nat.zero_add, Nat.reduceAdd, and_true] at cY8 cY9
        clear hr4 hp4 hsl hcn1 hot7 hop7 hbw7 xa xb bY7
        go_wp2_with (at_builtin; refine wp_appE TTS TTE _ 2 32 te_info Tryd.underlying23 rfl (by omega) (by omega) rfl _ _ rfl g2 (.slice A4 n4 c4) d4.length (cel prE d4) rfl HR.out.1 ⟨W7.heap.size + 1, 0, none⟩ 1 1 [.int .i64 (cn : Int), .slice (some ⟨W7.heap.size, 0, none⟩) 1 1] rfl rfl HCN.out pr_one (by omega) (by omega) hgw4 ?_; intro v8 w8 hown8 hb8 hg8; have hn8 : OwP TTE g2 w8 v8 ((ts3 (cn : Int)).take (k + 1)) := (by rw [HTT.out]; exact OwP.snoc (by decide) HR.out.1 HR.out.2.1 HR.out.2.2 hown8 hg8); obtain ⟨A8, n8, c8, hv8, _⟩ := hn8.slp2; subst hv8; have bY8 := HY7.out.1.grown hg8 HTG.out; have oT8 := HY7.out.2.1.grown hg8 HTG2.out; have cY10 := bY8.cells; have fY8 := Blk.free bY8 1; have HE := Lib.hid (And.intro bY8 (And.intro oT8 (And.intro hn8 (HY7.out.2.2.trans hb8)))); simp only [cellsAre, Nat.zero_add, Nat.reduceAdd, and_true] at cY10; clear bY8 oT8 hn8 hown8 hb8 hg8)
        go_roundw
        case rel =>
          obtain ⟨e1, e2, e3, e4⟩ := HE.out
          exact ⟨k + 1, _, _, _, _, _, _, by omega, by go_num, e1.set_ 1 _, e2.far e1 (by decide) 1 _, e3.far e1 (by decide) (by decide) 1 _, e4.setCell (Nat.le_refl _) _⟩
        case measure => simp [intOf]; omega
      · obtain rfl : k = 3 := by omega
        have hws : WS.take 3 = WS := by rw [← HWS.out]; rfl
        have hts : (ts3 (cn : Int)).take 3 = ts3 (cn : Int) := rfl
        rw [hws] at hot
        rw [hts] at hop
        have hcv := cv3 (w0 := (v0 : Int) + 1) (w1 := (v1 : Int) + 1) (w2 := (v2 : Int) + 1) (c := (cn : Int)) (by omega) (by omega) (by omega) (by omega)
        have HC := Lib.hid hcv
        have il3 := hot.il_
        have tl3 : Ts wr A4 n4 c4 (ts3 (cn : Int)) := by
          obtain ⟨A9, n9, c9, e, s9⟩ := hop.slp2
          injection e with e1 e2 e3
          subst e1 e2 e3
          exact s9.ts
        have g3 := il3.le
        have g3' := il3.cap
        have g4 := tl3.le
        have g4' := tl3.cap
        have IL := Lib.hid il3
        have TL := Lib.hid tl3
        have BY := Lib.hid bY
        have cY := bY.cells
        simp only [cellsAre, Nat.zero_add, Nat.reduceAdd, and_true] at cY
        have XW := Lib.hid (bt HBC.out hxw)
        clear bY hot hop hbw HBB hcv il3 tl3 hxw hws hts
        rw [← HWS.out] at IL
        go_wp2_with fail
        refine (rbest_any A3 A4 n3 c3 n4 c4 _ _ wr IL.out TL.out (HT.out.below XW.out)).mono ?_
        rintro e w5 ⟨v5, rfl, hv5, hb5⟩
        obtain ⟨A7, n7, c7, hv5', _⟩ := hv5.1 HC.out
        subst hv5'
        obtain ⟨P, hP⟩ : ∃ P, pC (ws3 ((v0 : Int) + 1) ((v1 : Int) + 1) ((v2 : Int) + 1)) (ts3 (cn : Int)) (allS (ws3 ((v0 : Int) + 1) ((v1 : Int) + 1) ((v2 : Int) + 1))) = P := ⟨_, rfl⟩
        rw [hP]
        have HP := Lib.hid hP
        have X5 := Lib.hid (bt XW.out hb5)
        have k5 := (BY.out.below hb5).cells
        simp only [cellsAre, Nat.zero_add, Nat.reduceAdd, and_true] at k5
        have IL5 := Lib.hid (IL.out.below hb5)
        have TL5 := Lib.hid (TL.out.below hb5)
        clear hv5 hb5 hP cY
        go_wp2_with fail
        refine (rfloor_any A3 A4 n3 c3 n4 c4 _ _ w5 IL5.out TL5.out).mono ?_
        rintro e w6 ⟨v6, rfl, hv6, hb6⟩
        obtain ⟨x, hv6', hfl⟩ := hv6.1 HC.out
        subst hv6'
        obtain rfl : x = P := by rw [← HP.out]; exact floor3 HC.out hfl
        have hxx : (x == x) = true := by simp
        have X6 := Lib.hid (bt X5.out hb6)
        clear hv6 hb6 hfl k5
        go_wp2_with fail
        refine (lives_any w6 (HT.out.below X6.out)).mono ?_
        rintro e w7 ⟨z7, rfl, rfl, b7⟩
        have X7 := Lib.hid (bt X6.out b7)
        clear b7
        go_wp2
        go_returns
        exact ⟨_, rfl, rfl, X7.out⟩
end Go.Proofs.Tb
