/- StoreTakes: the walk. -/
import Derived.Test.YtfljnfdeboibhaaTwf
set_option linter.unusedVariables false
set_option linter.unusedSimpArgs false
namespace Go.Proofs.Tb
open Go.Maps Go.RowKit Go.Lib
attribute [local go_sem] cell_set_same neqMapL
theorem st_bad {F : Nat → Prop} {w : World} {s d keep n : Nat} {Vs : List (List Pr)} (h : STx F w s d keep n Vs) (A : Option Addr) (m c : Nat) (cs : List Cg) (hr : Rv w 3 A m c (ccs cs)) (hm : m ≤ 1000) (hcs : ∀ c ∈ cs, c.k.size ≤ 1000000000 ∧ c.v.size ≤ 1000000000) (hb : batB cs = false) :
    Calls Try.prog 13 #[.pointer (some ⟨s, 0, none⟩), .slice A m c] w fun e w' => e = ansV 0 1 ∧ Ext w w' := by
  obtain ⟨vs, B, bl, h1, h2, h3, h4⟩ := h
  obtain ⟨A', m', c', hs, _⟩ := h1.se
  exact rcommit_bad s d keep _ w hs A m c cs hr hm hcs hb
/-- A row of changes that may be written. -/
def OwnG (w W : World) (g n : Nat) : Prop := n = 0 ∨ (w.heap.size ≤ g ∧ ∃ cur, Blk W g TCG cur ∧ 3 * n ≤ cur.size)
/-- Where StoreTakes stands. -/
structure TkS (w W : World) (s d H g n : Nat) (Vs VsS : List (List Pr)) (l : List Cg) (Al : Option Addr) (cl : Nat) : Prop where
  st : STx (fun b => w.heap.size ≤ b) W s d 1 1536 VsS
  rv : ∃ A m c, RSv W (.agg #[.slice A m c, .int .i64 ((1 : Nat) : Int)]) Vs 1 ∧ Blk W H TRS #[.slice A m c, .int .i64 ((1 : Nat) : Int)]
  ol : OwC 0 W (.slice Al l.length cl) l
  ow : OwnG w W g n
  ne : ∀ b, (Value.slice Al l.length cl).ownBlock = some b → b ≠ g
  ex : Ext w W
  hw : w.heap.size ≤ H
theorem TkS.ext {w W W' : World} {s d H g n : Nat} {Vs VsS : List (List Pr)} {l : List Cg} {Al : Option Addr} {cl : Nat} (h : TkS w W s d H g n Vs VsS l Al cl) (x : Ext W W') : TkS w W' s d H g n Vs VsS l Al cl := by
  obtain ⟨A, m, c, h1, h2⟩ := h.rv
  refine ⟨h.st.ext x, ⟨A, m, c, h1.ext x, h2.below x⟩, own_below h.ol x, ?_, h.ne, bt h.ex x, h.hw⟩
  rcases h.ow with h0 | ⟨h0, cur, h3, h4⟩
  · exact .inl h0
  · exact .inr ⟨h0, cur, h3.below x, h4⟩
theorem TkS.set {w W : World} {s d H g n : Nat} {Vs VsS : List (List Pr)} {l : List Cg} {Al : Option Addr} {cl : Nat} (h : TkS w W s d H g n Vs VsS l Al cl) (hn : 0 < n) (i : Nat) (u : Value) : TkS w (W.setCell ⟨g, i, none⟩ u) s d H g n Vs VsS l Al cl := by
  obtain ⟨A, m, c, h1, h2⟩ := h.rv
  rcases h.ow with h0 | ⟨h0, cur, h3, h4⟩
  · omega
  let X : Nat → Obj → Prop := fun b o => b = g ∧ ∃ cs, o = .cells cs TCG (0, 0)
  have c1 : Chg X W (W.setCell ⟨g, i, none⟩ u) := Chg.setB h3 ⟨rfl, _, rfl⟩ i u
  have hne : ∀ T, T ≠ TCG → ∀ b cs, ¬ X b (.cells cs T (0, 0)) := fun T hT b cs hx => by
    obtain ⟨_, cs', e⟩ := hx
    injection e with _ e
    exact hT e
  refine ⟨h.st.chg c1 (fun b o _ hM hX => ?_) (hne _ (by decide)) (hne _ (by decide)) (hne _ (by decide)), ⟨A, m, c, h1.chg c1 (hne _ (by decide)) (hne _ (by decide)), c1.blk h2 (hne _ (by decide) _ _)⟩, c1.own h.ol fun b cs hb hX => h.ne b hb hX.1, .inr ⟨h0, _, h3.set_ i u, by simpa using h4⟩, h.ne, h.ex.setCell (p := ⟨g, i, none⟩) h0 u, h.hw⟩
  obtain ⟨rfl, cs', rfl⟩ := hX
  revert hM
  show ¬ (TCG = TDK ∨ TCG = TBY ∨ TCG = TSE)
  decide
theorem own_gt {base : Nat} {W : World} {A : Option Addr} {n c : Nat} {l : List Cg} (h : OwC base W (.slice A n c) l) (hn : 0 < n) : ∃ g cur, A = some ⟨g, 0, none⟩ ∧ base ≤ g ∧ Blk W g TCG cur ∧ 3 * n ≤ cur.size := by
  have hl : l.length = n := by obtain ⟨A', c', e, _⟩ := own_rv h; injection e with _ e _; exact e.symm
  have h1 := h.1
  rcases h.2 with ⟨e, h0⟩ | ⟨g, cap, cur, e, hb, hh, h3, h4, h5, h6⟩
  · omega
  · injection e with e1 e2 e3
    exact ⟨g, cur, e1, hb, hh, by omega⟩
theorem cell_blk {W : World} {g : Nat} {T : TypeId} {cur : Array Value} (h : Blk W g T cur) {i : Nat} (hi : i < cur.size) : ∃ v, W.cell? ⟨g, i, none⟩ = some v := by
  refine ⟨cur[i], ?_⟩
  rw [cell_of_row W g i cur T (0, 0) h]
  simp [hi]
theorem TkS.mf {w W W' : World} {s d H g n : Nat} {Vs VsS VsT : List (List Pr)} {l : List Cg} {Al : Option Addr} {cl : Nat} (h : TkS w W s d H g n Vs VsS l Al cl) (hs : STx (fun b => w.heap.size ≤ b) W' s d 1 1536 VsT) (hc : Chg (MF fun b => w.heap.size ≤ b) W W') : TkS w W' s d H g n Vs VsT l Al cl := by
  obtain ⟨A, m, c, h1, h2⟩ := h.rv
  refine ⟨hs, ⟨A, m, c, h1.chg hc MF.tpa MF.tps, hc.blk h2 (MF.trs _ _)⟩, OwC.chg h.ol hc MF.tcg, ?_, h.ne, hc.ge h.ex, h.hw⟩
  rcases h.ow with h0 | ⟨h0, cur, h3, h4⟩
  · exact .inl h0
  · exact .inr ⟨h0, cur, hc.blk h3 (MF.tcg _ _), h4⟩
/-- What StoreTakes' Commit does. -/
structure TkC (w w' : World) (s d H g n : Nat) (Vs VsS : List (List Pr)) (l : List Cg) (Al : Option Addr) (cl : Nat) (L : List Pr) (nv er : Int) : Prop where
  tk : TkS w w' s d H g n Vs VsS l Al cl
  bad : batB l = false → VsS = Vs ∧ nv = 0 ∧ er = 1
  ok : batB l = true → fitB Vs 1 (aft L l) 1536 = true → VsS = Vs ++ [aft L l] ∧ nv = (Vs.length : Int) ∧ er = 0
theorem tk_commit {w W : World} {s d H g n : Nat} {Vs : List (List Pr)} {l : List Cg} {Al : Option Addr} {cl : Nat} (h : TkS w W s d H g n Vs Vs l Al cl) (hV : Vs.length ≤ 100) {L : List Pr} (hL : Vs.getD (Vs.length - 1) [] = L) (hLl : L.length ≤ 10000) (A : Option Addr) (c : Nat) (hr : Rv W 3 A l.length c (ccs l)) (hll : l.length ≤ 17) (hcu : Cut l) :
    Calls Try.prog 13 #[.pointer (some ⟨s, 0, none⟩), .slice A l.length c] W fun e w' => ∃ VsS nv er, e = ansV nv er ∧ TkC w w' s d H g n Vs VsS l Al cl L nv er := by
  cases hb : batB l with
  | false =>
    refine (st_bad h.st A _ c l hr (by omega) (fun x hx => by have := hcu x hx; omega) hb).mono ?_
    rintro e w' ⟨he, hx⟩
    exact ⟨Vs, 0, 1, he, h.ext hx, fun _ => ⟨rfl, rfl, rfl⟩, fun h0 => by rw [hb] at h0; cases h0⟩
  | true =>
    refine (st_commit h.st (fun b hb => Nat.le_trans h.ex.size hb) (by omega) (by omega) (by omega) hL hLl A _ c l hr hb).mono ?_
    intro e w' ha
    cases ha with
    | ok he hs hc => exact ⟨_, _, _, he, h.mf hs hc, (fun h0 => by rw [hb] at h0; cases h0), fun _ _ => ⟨rfl, rfl, rfl⟩⟩
    | full hf he hx => exact ⟨Vs, 0, 8, he, h.ext hx, (fun h0 => by rw [hb] at h0; cases h0), fun _ h0 => by rw [show ((1536 : Nat) : Int) = 1536 from rfl, h0] at hf; cases hf⟩
def chgd : Value := .string ⟨#[99, 104, 97, 110, 103, 101, 100]⟩
set_option maxHeartbeats 6400000 in
set_option maxRecDepth 100000 in
theorem rtakes_any (A : Option Addr) (nx cx : Nat) (A' : Option Addr) (ny cy : Nat) (ys : List Cg) (w : World) (h : OpX w A nx cx) (hy : Rv w 3 A' ny cy (ccs ys)) (hys : ∀ x ∈ ys, x.k.size ≤ 9223372036854775807 ∧ x.v.size ≤ 9223372036854775807) :
    Calls Try.prog 3 #[.slice A nx cx, .slice A' ny cy] w (Ret (fun z _ => z = .bool true) w) := by
  have HX := Lib.hid h
  have HY := Lib.hid hy
  have HYS := Lib.hid hys
  clear h hy hys
  go_enter Try.func3, Try.ntmps3
  go_wp2_with fail
  refine (rfilled_any A nx cx 8 1 (by omega) (by omega) w HX.out).mono ?_
  rintro e w1 ⟨v1, rfl, ⟨s, d, rv, Vs, rfl, hs, hr, hl1, hl2⟩, b1⟩
  obtain ⟨A1, m1, c1, rfl, hh1⟩ := hr.form
  clear hh1
  have HS1 := Lib.hid hs
  have HR1 := Lib.hid hr
  have X1 := Lib.hid b1
  have HL2 := Lib.hid hl2
  clear hs hr b1 hl2
  go_upto_region 2 with fail
  have x2 : Ext w1 (w1.alloc (.cells #[.slice A1 m1 c1, .int .i64 ((1 : Nat) : Int)] TRS)) := Ext.allocR _ _
  refine wp_world (fun W => Ext w1 W ∧ Blk W w1.heap.size TRS #[.slice A1 m1 c1, .int .i64 ((1 : Nat) : Int)]) ⟨x2, Blk.new_ _ _ rfl⟩ ?_
  obtain ⟨H, hH⟩ : ∃ H, w1.heap.size = H := ⟨_, rfl⟩
  have hHw : w.heap.size ≤ H := by rw [← hH]; exact X1.out.size
  rw [hH]
  rintro W2 ⟨hx2, hb2⟩
  have X2 := Lib.hid (bt X1.out hx2)
  have HS2 := Lib.hid (HS1.out.ext hx2)
  have HR2 := Lib.hid (HR1.out.ext hx2)
  have HB2 := Lib.hid hb2
  clear x2 hx2 hb2 HS1 HR1 X1 hH
  go_wp2_with fail
  refine (rlives_any W2).mono ?_
  rintro e w3 ⟨v3, rfl, rfl, b3⟩
  have X3 := Lib.hid (bt X2.out b3)
  have HS3 := Lib.hid (HS2.out.ext b3)
  have HR3 := Lib.hid (HR2.out.ext b3)
  have HB3 := Lib.hid (HB2.out.below b3)
  clear b3 HS2 HR2 X2 HB2
  go_wp2_with fail
  refine (rbat_any A' ny cy ys 16 w3 (HY.out.below X3.out) HYS.out (by omega)).mono ?_
  rintro e w4 ⟨v4, rfl, ⟨l, hol, hll, hcu⟩, b4⟩
  obtain ⟨Al, cl, rfl, hrl⟩ := own_rv hol
  have X4 := Lib.hid (bt X3.out b4)
  have HS4 := Lib.hid (HS3.out.ext b4)
  have HR4 := Lib.hid (HR3.out.ext b4)
  have HB4 := Lib.hid (HB3.out.below b4)
  have OL := Lib.hid hol
  have RL := Lib.hid hrl
  have CU := Lib.hid hcu
  clear hol b4 hrl hcu HS3 HR3 HB3 X3
  go_upto_region 6 with (at_builtin; refine wpl_appC rfl _ _ rfl w4.heap.size (.slice (some ⟨w4.heap.size, 0, none⟩) 0 0) [] rfl (own_lit TCG 3 #[] 0 (Nat.le_refl _) (by omega) rfl) Al l.length cl l rfl (RL.out.below (Ext.allocR _ _)) (by simp) (by omega) (by simp) ?_; intro A8 n8 c8 w8 o8 r8 b8 g8; have HAP := Lib.hid (show OwC w4.heap.size w8 (.slice A8 n8 c8) l ∧ Rv w8 3 A8 n8 c8 (ccs l) ∧ Ext w4 w8 from ⟨o8, r8, Below.trans (Ext.allocR _ _) b8⟩); clear o8 r8 b8 g8)
  obtain ⟨o8, r8, x8⟩ := HAP.out
  obtain rfl : n8 = l.length := by obtain ⟨_, _, e, _⟩ := own_rv o8; injection e
  have hg : ∃ g, (0 < l.length → A8 = some ⟨g, 0, none⟩) ∧ OwnG w w8 g l.length ∧ w4.heap.size ≤ g := by
    rcases Nat.eq_zero_or_pos l.length with h0 | h0
    · exact ⟨w4.heap.size, fun h => by omega, .inl h0, Nat.le_refl _⟩
    · obtain ⟨g, cur, e1, e2, e3, e4⟩ := own_gt o8 h0
      exact ⟨g, fun _ => e1, .inr ⟨Nat.le_trans X4.out.size e2, cur, e3, e4⟩, e2⟩
  obtain ⟨g, hA8, hog, hgg⟩ := hg
  have hlen1 : Vs.length ≤ 9 := hl1
  obtain ⟨L, hL⟩ : ∃ L, Vs.getD (Vs.length - 1) [] = L := ⟨_, rfl⟩
  have hVp := HS4.out.pos
  have hLm : L.length ≤ 360 := by
    rw [← hL, show Vs.getD (Vs.length - 1) [] = Vs[Vs.length - 1] by simp [List.getD, show Vs.length - 1 < Vs.length by omega]]
    exact HL2.out _ (List.getElem_mem _)
  have htk : TkS w w8 s d H g l.length Vs Vs l Al cl := ⟨HS4.out.ext x8, ⟨A1, m1, c1, HR4.out.ext x8, HB4.out.below x8⟩, own_below (own_lower OL.out (Nat.zero_le _)) x8, hog, fun b hb e => by
    obtain ⟨cs, hcs⟩ := own_lt' (own_lower OL.out (Nat.zero_le _)) hb
    have := obj_lt hcs
    omega, bt X4.out x8, hHw⟩
  have HT8 := Lib.hid htk
  have R8 := Lib.hid r8
  have HL := Lib.hid hL
  have HA8 := Lib.hid hA8
  clear o8 r8 x8 hA8 hog hgg hL htk HAP HS4 HR4 X4 HB4 OL RL hl1
  go_wp2_with fail
  refine (tk_commit HT8.out (by omega) HL.out (by omega) A8 c8 R8.out hll CU.out).mono ?_
  rintro e w9 ⟨VsS, nv, er, rfl, hC⟩
  unfold ansV
  have HC := Lib.hid hC
  have HT9 := Lib.hid hC.tk
  clear hC HT8 R8
  go_wp2_with fail
  go_loopw [12] (fun i wr => ∃ j : Nat, j ≤ l.length ∧ i = .int .i64 (j : Int) ∧ TkS w wr s d H g l.length Vs VsS l Al cl) (fun i _ => l.length - (intOf i).toNat)
  case atStart => exact ⟨0, by omega, rfl, HT9.out⟩
  case round =>
    clear HT9
    obtain ⟨j, hj, rfl, hw⟩ := hrel
    have HW := Lib.hid hw
    clear hw
    by_cases hjl : j < l.length
    · have p1 : (j : Int) < (l.length : Int) := by omega
      have wj : IntKind.i64.wrap ((j : Int) + 1) = ((j + 1 : Nat) : Int) := by rw [IntWalk.i64_in _ (by omega)]; rfl
      have e8 := HA8.out (by omega)
      rcases HW.out.ow with h0 | ⟨h0, cur, h3, h4⟩
      · omega
      obtain ⟨u1, k1⟩ := cell_blk h3 (i := j * 3) (by omega)
      obtain ⟨u2, k2⟩ := cell_blk h3 (i := j * 3 + 1) (by omega)
      have f1 := h3.free
      subst e8
      clear h3 h4 h0
      go_wp2_with fail
      exact ⟨⟨j + 1, by omega, rfl, (HW.out.set (by omega) _ _).set (by omega) _ _⟩, by simp [intOf]; omega⟩
    · obtain rfl : j = l.length := by omega
      have RL := Lib.hid (own_rvv HW.out.ol)
      go_wp2_with fail
      refine (zbatch_any Al _ cl l wr RL.out (by omega) (fun x hx => by have := CU.out x hx; omega)).mono ?_
      rintro e w5 ⟨v5, rfl, rfl, b5⟩
      have HW5 := Lib.hid (HW.out.ext b5)
      have RL5 := Lib.hid (RL.out.below b5)
      clear b5 RL HW
      obtain ⟨A5, m5, c5, hr5, hk5⟩ := HW5.out.rv
      have k5 := hk5.cells
      simp only [cellsAre, Nat.zero_add, Nat.reduceAdd, and_true] at k5
      have HR5 := Lib.hid hr5
      have HK5 := Lib.hid hk5
      clear hk5 hr5
      cases hbat : batB l with
      | false =>
        obtain ⟨rfl, rfl, rfl⟩ := HC.out.bad hbat
        clear hbat
        go_wp2_with fail
        refine (st_broken HW5.out.st).mono ?_
        rintro e w6 ⟨v6, rfl, rfl, b6⟩
        have HW6 := Lib.hid (HW5.out.ext b6)
        have HR6 := Lib.hid (HR5.out.ext b6)
        have k6 := (HK5.out.below b6).cells
        simp only [cellsAre, Nat.zero_add, Nat.reduceAdd, and_true] at k6
        clear b6 HW5 HR5 HK5 k5 RL5
        go_wp2_with fail
        refine (st_alike HW6.out.st HR6.out (by omega) (by omega) (fun x hx => by have := HL2.out x hx; omega)).mono ?_
        rintro e w7 ⟨v7, rfl, rfl, b7⟩
        have X7 := Lib.hid (bt HW6.out.ex b7)
        clear b7 HW6 HR6 k6
        go_wp2_with fail
        (try simp only [Exit.inBlock, Exit.then])
        refine bodyPost_ret (v := (.bool true)) (by simp [results, Try.results3, go_sem, *]) rfl ?_
        exact ⟨_, rfl, rfl, X7.out⟩
      | true =>
        have HBT := Lib.hid hbat
        clear hbat
        go_wp2_with fail
        refine (zfits_any HR5.out (by omega) (by omega) (by omega) HL.out (fun x hx => by have := HL2.out x hx; omega) Al _ cl l RL5.out (by omega) 1536).mono ?_
        rintro e w6 ⟨v6, rfl, rfl, b6⟩
        have HW6 := Lib.hid (HW5.out.ext b6)
        have RL6 := Lib.hid (RL5.out.below b6)
        have HR6 := Lib.hid (HR5.out.ext b6)
        have HK6 := Lib.hid (HK5.out.below b6)
        have k6 := HK6.out.cells
        simp only [cellsAre, Nat.zero_add, Nat.reduceAdd, and_true] at k6
        clear b6 HW5 RL5 HR5 HK5 k5
        cases hfit : fitB Vs 1 (aft L l) 1536 with
        | false =>
          clear hfit
          go_wp2_with fail
          (try simp only [Exit.inBlock, Exit.then])
          refine bodyPost_ret (v := (.bool true)) (by simp [results, Try.results3, go_sem, *]) rfl ?_
          exact ⟨_, rfl, rfl, HW6.out.ex⟩
        | true =>
          obtain ⟨rfl, rfl, rfl⟩ := HC.out.ok HBT.out hfit
          have HLN := Lib.hid (fit_len hfit hVp)
          clear hfit
          go_wp2_with fail
          refine (zcommit_any HR6.out (by omega) (by omega) HL.out (by omega) Al _ cl l RL6.out (by omega)).mono ?_
          rintro e w9 ⟨v9, rfl, hr9, b9⟩
          obtain ⟨A9, m9, c9, rfl, hh9⟩ := hr9.form
          clear hh9
          have HW9 := Lib.hid (HW6.out.ext b9)
          have HR9 := Lib.hid hr9
          have HK9 := Lib.hid (HK6.out.below b9)
          have k9 := HK9.out.cells
          simp only [cellsAre, Nat.zero_add, Nat.reduceAdd, and_true] at k9
          have f9 := HK9.out.free
          clear b9 hr9 HW6 RL6 HR6 HK6 k6
          have HLE := Lib.hid (show ∀ x ∈ Vs ++ [aft L l], x.length ≤ 360 from fun x hx => by
            rcases List.mem_append.1 hx with hx | hx
            · exact HL2.out x hx
            · rw [List.mem_singleton.1 hx]; exact HLN.out)
          go_upto_region 16 with fail
          obtain ⟨hF, hR⟩ := FiS.put HW9.out.st ⟨_, _, HK9.out⟩ HR9.out HW9.out.ex HW9.out.hw HLE.out
          have b9 : Blk ((w9.setCell ⟨H, 0, none⟩ (.slice A9 m9 c9)).setCell ⟨H, 1, none⟩ (.int .i64 ((1 : Nat) : Int))) H TRS #[.slice A9 m9 c9, .int .i64 ((1 : Nat) : Int)] := (HK9.out.set_ 0 (.slice A9 m9 c9)).set_ 1 (.int .i64 ((1 : Nat) : Int))
          have ec : ((1 : Nat) : Int) = 1 := rfl
          rw [ec] at hF hR b9
          obtain ⟨w10, e10⟩ : ∃ w10, (w9.setCell ⟨H, 0, none⟩ (.slice A9 m9 c9)).setCell ⟨H, 1, none⟩ (.int .i64 1) = w10 := ⟨_, rfl⟩
          rw [e10] at hF hR b9 ⊢
          have k10 := b9.cells
          simp only [cellsAre, Nat.zero_add, Nat.reduceAdd, and_true] at k10
          have HF10 := Lib.hid hF
          have HR10 := Lib.hid hR
          have HK10 := Lib.hid b9
          have wV : IntKind.i64.wrap ((Vs.length : Int) - 1 + 1) = (Vs.length : Int) := by rw [IntWalk.i64_in _ (by omega)]; omega
          have hln : (Vs ++ [aft L l]).length = Vs.length + 1 := by rw [List.length_append, List.length_singleton]
          have HLL := Lib.hid hln
          clear hF hR b9 e10 k9 f9 hln
          go_wp2_with fail
          refine (znewest_any HR10.out (by rw [HLL.out]; omega)).mono ?_
          rintro e w11 ⟨v11, rfl, rfl, b11⟩
          rw [show (((Vs ++ [aft L l]).length : Int) - 1) = (Vs.length : Int) by rw [HLL.out]; omega]
          have HF11 := Lib.hid (HF10.out.ext b11)
          have HR11 := Lib.hid (HR10.out.ext b11)
          have k11 := (HK10.out.below b11).cells
          simp only [cellsAre, Nat.zero_add, Nat.reduceAdd, and_true] at k11
          clear b11 HF10 HR10 HK10 k10
          go_wp2_with fail
          refine (st_alike HF11.out.st HR11.out (by rw [HLL.out]; omega) (by omega) (fun x hx => by have := HLE.out x hx; omega)).mono ?_
          rintro e w12 ⟨v12, rfl, rfl, b12⟩
          have X12 := Lib.hid (bt HF11.out.ex b12)
          clear b12 HF11 HR11 k11
          go_wp2_with fail
          (try simp only [Exit.inBlock, Exit.then])
          refine bodyPost_ret (v := (.bool true)) (by simp [results, Try.results3, go_sem, *]) rfl ?_
          exact ⟨_, rfl, rfl, X12.out⟩
end Go.Proofs.Tb
