/- Contract of Open at a disk that holds versions. -/
import Derived.Test.YtfljnfdeboibhaaGreatRog
set_option linter.unusedVariables false
set_option linter.unusedSimpArgs false
namespace Go.Proofs.Tb
open Go.Maps Go.RowKit Go.Lib
attribute [local go_sem] cell_set_same neqMapL

theorem vsK_at {B B0 : Nat → Nat} {vs vs0 : List (Nat × MT)} (h : vsK B vs = vsK B0 vs0) (i : Nat) {q : Nat} {t0 : MT} (h0 : vs0[i]? = some (q, t0)) : ∃ t, vs[i]? = some (q, t) ∧ t.er = t0.er ∧ t.bk B = t0.bk B0 := by
  have h1 : (vsK B vs)[i]? = (vsK B0 vs0)[i]? := by rw [h]
  unfold vsK at h1
  rw [List.getElem?_map, List.getElem?_map, h0] at h1
  cases hv : vs[i]? with
  | none => rw [hv] at h1; cases h1
  | some v =>
    rw [hv] at h1
    injection h1 with h1
    obtain ⟨v1, v2⟩ := v
    injection h1 with e1 e2
    injection e2 with e2 e3
    subst e1
    exact ⟨v2, rfl, e2, e3⟩
theorem VsR.of_eq {keep : Nat} {vs vs0 : List (Nat × MT)} {Vs : List (List Pr)} {B B0 : Nat → Nat} (h : VsR keep vs0 Vs) (he : vsK B vs = vsK B0 vs0) : VsR keep vs Vs :=
  ⟨h.nv, (vsK_len he).trans h.len, fun i hi => by
    obtain ⟨t0, a1, a2, a3⟩ := h.at_ i (by rw [← vsK_len he]; exact hi)
    obtain ⟨t, b1, b2, _⟩ := vsK_at he i a1
    exact ⟨t, b1, by rw [b2]; exact a2, by rw [b2]; exact a3⟩, h.ok⟩
theorem rtB_eq {B B0 : Nat → Nat} {vs vs0 : List (Nat × MT)} (h : vsK B vs = vsK B0 vs0) : rtB B vs = rtB B0 vs0 := by
  have h2 : ∀ (B : Nat → Nat) (vs : List (Nat × MT)), rtB B vs = (vsK B vs).map fun x => x.2.2 := fun B vs => by
    unfold rtB vsK
    rw [List.map_map]
    rfl
  rw [h2, h2, h]
theorem StR.of_eq {cur : List (List Nat)} {keep N : Nat} {vs vs0 : List (Nat × MT)} {B B0 : Nat → Nat} (h : StR cur keep N vs0 B0) (he : vsK B vs = vsK B0 vs0) (hon : ∀ v ∈ vs, v.2.on cur B) : StR cur keep N vs B :=
  ⟨h.two, h.le, hon, by rw [rtB_eq he]; exact h.root, h.oth⟩
/-- A root block that heads reads. -/
structure RtW (cur : List (List Nat)) (keep k num : Nat) (rs : List Nat) : Prop where
  at_ : cur.getD k z64 = blkB (rootB keep num rs)
  n9 : num ≤ 1000000000
  l1 : 1 ≤ rs.length
  l2 : rs.length ≤ keep + 1
  l3 : rs.length ≤ num + 1
  le : ∀ r ∈ rs, r ≤ 4096
/-- The two root blocks. -/
def Rt2 (cur : List (List Nat)) (keep N : Nat) (rs : List Nat) : Prop :=
  ∃ n0 r0, RtW cur keep 0 n0 r0 ∧ ((cur.getD 1 z64 = z64 ∧ n0 = N ∧ r0 = rs) ∨ ∃ n1 r1, RtW cur keep 1 n1 r1 ∧ ((n0 < n1 ∧ n1 = N ∧ r1 = rs) ∨ (n1 < n0 ∧ n0 = N ∧ r0 = rs)))
theorem StR.two_roots {cur : List (List Nat)} {keep N : Nat} {vs : List (Nat × MT)} {B : Nat → Nat} (h : StR cur keep N vs B) (hN : N ≤ 1000000000) (hB : ∀ a, B a ≤ 4096) (h1 : 1 ≤ vs.length) (h2 : vs.length ≤ keep + 1) (h3 : vs.length ≤ N + 1) : Rt2 cur keep N (rtB B vs) := by
  have hl : (rtB B vs).length = vs.length := List.length_map _
  have hb : ∀ r ∈ rtB B vs, r ≤ 4096 := fun r hr => by
    obtain ⟨v, _, rfl⟩ := List.mem_map.1 hr
    exact bk_le hB v.2
  have hr := h.root
  rcases Nat.mod_two_eq_zero_or_one N with e | e
  · rw [e] at hr
    refine ⟨N, rtB B vs, ⟨hr, hN, by omega, by omega, by omega, hb⟩, ?_⟩
    rcases h.oth with ⟨q1, q2⟩ | ⟨rs, q1, q2, q3, q4, q5, q6⟩
    · left
      rw [show (N + 1) % 2 = 1 by omega] at q2
      exact ⟨q2, rfl, rfl⟩
    · right
      rw [show (N + 1) % 2 = 1 by omega] at q2
      exact ⟨N - 1, rs, ⟨q2, by omega, q3, q4, by omega, q6⟩, Or.inr ⟨by omega, rfl, rfl⟩⟩
  · rw [e] at hr
    rcases h.oth with ⟨q1, q2⟩ | ⟨rs, q1, q2, q3, q4, q5, q6⟩
    · omega
    · rw [show (N + 1) % 2 = 0 by omega] at q2
      exact ⟨N - 1, rs, ⟨q2, by omega, q3, q4, by omega, q6⟩, Or.inr ⟨N, rtB B vs, ⟨hr, hN, by omega, by omega, by omega, hb⟩, Or.inl ⟨by omega, rfl, rfl⟩⟩⟩
/-- Where Open's loop stands. -/
inductive OpM (w W : World) (H keep n0 : Nat) (r0 : List Nat) (N : Nat) (rs : List Nat) (j : Nat) (v : Value) : Prop
  | zero : j = 0 → v = .bool false → Ext w W → Blk W H THD #[.int .i64 0, .int .i64 0, .slice none 0 0] → OpM w W H keep n0 r0 N rs j v
  | one (A : Option Addr) (c : Nat) : j = 1 → v = .bool true → Ext w W → Blk W H THD #[.int .i64 (keep : Int), .int .i64 (n0 : Int), .slice A r0.length c] → W.ownsRow 0 TIN 1 (.slice A r0.length c) r0.length (ri r0) → OpM w W H keep n0 r0 N rs j v
  | two (A : Option Addr) (c : Nat) : j = 2 → v = .bool true → Ext w W → Blk W H THD #[.int .i64 (keep : Int), .int .i64 (N : Int), .slice A rs.length c] → W.ownsRow 0 TIN 1 (.slice A rs.length c) rs.length (ri rs) → OpM w W H keep n0 r0 N rs j v
theorem OpM.le {w W : World} {H keep n0 N j : Nat} {r0 rs : List Nat} {v : Value} (h : OpM w W H keep n0 r0 N rs j v) : j ≤ 2 := by
  cases h <;> omega
set_option maxHeartbeats 6400000 in
set_option maxRecDepth 100000 in
theorem ropen_at {F : Nat → Prop} {w : World} {d keep n : Nat} {Vs : List (List Pr)} {bl : List (List (List Nat))} {left : Nat} (hd : DW F w d bl false left) (hF : ∀ b, w.heap.size ≤ b → F b) (hs : Sdd (lastsB bl) keep Vs) (hfew : ∀ k, (bl.getD k []).length ≤ 1) (hnl : bl.length = n) (hk : keep ≤ 8) (hV : Vs.length ≤ 100000) (hVl : ∀ l ∈ Vs, l.length ≤ 10000) (ka : Nat) (hka : ka ≤ 8) :
    Calls Tryz.prog 16 #[.pointer (some ⟨d, 0, none⟩), .int .i64 (ka : Int)] w (Ret (fun z w' => ∃ s, z = .tuple #[.pointer (some ⟨s, 0, none⟩), .int .i64 0] ∧ STl F w' s d keep n Vs left) w) := by
  have HFW := Lib.hid (And.intro hfew hnl)
  clear hfew hnl
  obtain ⟨vs0, B0, hst, hvs, hB0⟩ := hs
  have hVn : 1 ≤ Vs.length := List.length_pos_iff.2 hvs.nv
  have hvl := hvs.len
  obtain ⟨N, hN⟩ : ∃ N, Vs.length - 1 = N := ⟨_, rfl⟩
  rw [hN] at hst
  have h2 := hst.two_roots (by omega) hB0 hvs.pos (by omega) (by omega)
  have hon : ∀ v ∈ vs0, v.2.on (lastsB bl) B0 ∧ OkP v.2.er.prs ∧ v.2.er.ht < 64 := fun v hv => by
    obtain ⟨i, hi, rfl⟩ := List.getElem_of_mem hv
    obtain ⟨t, a1, a2, a3⟩ := hvs.at_ i hi
    rw [List.getElem?_eq_getElem hi] at a1
    injection a1 with a1
    rw [a1]
    refine ⟨by have := hst.on _ (List.getElem_mem hi); rw [a1] at this; exact this, by rw [a2]; exact (hvs.okAt hi).2, Tr.ht_lt a3 ?_⟩
    rw [← Tr.size_prs, a2]
    have hlt : Vs.length - 1 - i < Vs.length := by omega
    have : (Vs.getD (Vs.length - 1 - i) []).length ≤ 10000 := hVl _ (by
      rw [List.getD_eq_getElem?_getD, List.getElem?_eq_getElem hlt]
      exact List.getElem_mem hlt)
    omega
  have hnum : ∀ i (hi : i < vs0.length), (vs0[i]).1 = N - i := fun i hi => by
    obtain ⟨t, a1, _, _⟩ := hvs.at_ i hi
    rw [List.getElem?_eq_getElem hi] at a1
    injection a1 with a1
    rw [a1, ← hN]
  have hvlen : (rtB B0 vs0).length = vs0.length := List.length_map _
  obtain ⟨rs, hrs⟩ : ∃ rs, rtB B0 vs0 = rs := ⟨_, rfl⟩
  rw [hrs] at h2 hvlen
  obtain ⟨n0, r0, hr0, hr1⟩ := h2
  have htwo : 2 ≤ (lastsB bl).length := hst.two
  have HDW := Lib.hid hd
  have HF := Lib.hid hF
  have HST := Lib.hid (And.intro hst hvs)
  have HRD := Lib.hid (fun (W : World) (A : Option Addr) (c : Nat) (hx : Ext w W) (hrow : Rv W 1 A rs.length c (ri rs)) => rread_at (F := F) d keep N rs.length A c B0 vs0 bl left W (hd.ext hx) (fun b hb => hF b (Nat.le_trans (Ext.size hx) hb)) (by rw [hrs]; exact hrow) hvlen.symm (by omega) (by omega) (by omega) hnum hon)
  obtain ⟨g, hdi, _, _⟩ := hd
  have hne : lastsB bl ≠ [] := by intro e; rw [e] at htwo; simp at htwo
  obtain ⟨gb, cap, hv, hc1, hc2, hb⟩ := hdi.form hne
  have HB := Lib.hid hb
  have HDI := Lib.hid hdi
  have HR0 := Lib.hid hr0
  have HR1 := Lib.hid hr1
  have HTW := Lib.hid htwo
  have HNN := Lib.hid hN
  have p1 : ¬ (ka : Int) < 0 := by omega
  have p2 : ¬ (8 : Int) < (ka : Int) := by omega
  clear hF hdi hv hc1 hc2 hb hne hr0 hr1 htwo hst hvs hnum hon hvlen hrs hVl hN hvl hB0
  go_enter Tryz.func16, Tryz.ntmps16
  go_wp2_with fail
  refine (rmade_any d g.m _ false left w HB.out).mono ?_
  rintro e w1 ⟨v1, rfl, rfl, b1⟩
  have k1 := (HB.out.below b1).cells
  simp only [cellsAre, Nat.zero_add, Nat.reduceAdd, and_true] at k1
  have X1 := Lib.hid b1
  clear b1
  go_upto_region 6 with fail
  clear k1
  obtain ⟨H, hH⟩ : ∃ H, w1.heap.size = H := ⟨_, rfl⟩
  refine wp_world (fun W => OpM w W H keep n0 r0 N rs 0 (.bool false)) (.zero rfl rfl (bt X1.out (Ext.allocR _ _)) (by rw [← hH]; exact Blk.new_ (w := w1) THD #[.int .i64 0, .int .i64 0, .slice none 0 0] rfl)) ?_
  rintro W0 hw0
  have HW0 := Lib.hid hw0
  have hHw : w.heap.size ≤ H := by have := X1.out.size; omega
  clear hw0
  rw [hH]
  clear hH X1
  go_wp2_with fail
  go_loopw [7, 31] (fun v i wr => ∃ j : Nat, i = .int .i64 (j : Int) ∧ OpM w wr H keep n0 r0 N rs j v) (fun _ i _ => 2 - (intOf i).toNat)
  case atStart => exact ⟨0, rfl, HW0.out⟩
  case round =>
    clear HW0
    obtain ⟨j, rfl, hw⟩ := hrel
    have hj2 := hw.le
    rcases hw with ⟨rfl, rfl, hx, hh⟩ | ⟨A, c, rfl, rfl, hx, hh, hro⟩ | ⟨A, c, rfl, rfl, hx, hh, hro⟩
    · have kf := hh.cells
      simp only [cellsAre, Nat.zero_add, Nat.reduceAdd, and_true] at kf
      have HX := Lib.hid hx
      have HH := Lib.hid hh
      clear hx hh
      go_wp2_with fail
      refine (rat_any (HDI.out.ext HX.out) (k := 0) (Nat.lt_of_lt_of_le (by decide) HTW.out)).mono ?_
      rintro e w2 ⟨v2, rfl, ⟨A2, c2, rfl, ho2⟩, b2⟩
      rw [HR0.out.at_] at ho2
      have r2 := OwB.rv ho2
      have X2 := Lib.hid (bt HX.out b2)
      have H2 := Lib.hid (HH.out.below b2)
      clear ho2 b2 kf HH HX
      obtain ⟨m0, hm0⟩ : ∃ m0, r0.length = m0 := ⟨_, rfl⟩
      go_wp2_with fail
      refine (rheads_ok A2 c2 keep n0 m0 r0 w2 r2 hk HR0.out.n9 hm0 (by have := HR0.out.l1; omega) (by have := HR0.out.l2; omega) (by have := HR0.out.l3; omega) HR0.out.le).mono ?_
      rintro e w3 ⟨v3, rfl, ⟨A3, c3, rfl, ho3⟩, b3⟩
      unfold hdV
      have X3 := Lib.hid (bt X2.out b3)
      have h3 := H2.out.below b3
      have k3 := h3.cells
      have f3 := h3.free
      have HO3 := Lib.hid (show w3.ownsRow 0 TIN 1 (.slice A3 m0 c3) m0 (ri r0) from own_lower ho3 (Nat.zero_le _))
      simp only [cellsAre, Nat.zero_add, Nat.reduceAdd, and_true] at k3
      have H3 := Lib.hid h3
      clear r2 b3 H2 X2 h3 ho3
      have hA : Blk (w3.alloc (.cells #[.int .i64 (keep : Int), .int .i64 (n0 : Int), .slice A3 m0 c3] THD)) H THD _ := H3.out.alloc _
      have fA := hA.free
      have kA := hA.cells
      simp only [cellsAre, Nat.zero_add, Nat.reduceAdd, and_true] at kA
      have HE := Lib.hid (show Blk ((((w3.alloc (.cells #[.int .i64 (keep : Int), .int .i64 (n0 : Int), .slice A3 m0 c3] THD)).setCell ⟨H, 0, none⟩ (.int .i64 (keep : Int))).setCell ⟨H, 1, none⟩ (.int .i64 (n0 : Int))).setCell ⟨H, 2, none⟩ (.slice A3 m0 c3)) H THD #[.int .i64 (keep : Int), .int .i64 (n0 : Int), .slice A3 m0 c3] ∧ Ext w ((((w3.alloc (.cells #[.int .i64 (keep : Int), .int .i64 (n0 : Int), .slice A3 m0 c3] THD)).setCell ⟨H, 0, none⟩ (.int .i64 (keep : Int))).setCell ⟨H, 1, none⟩ (.int .i64 (n0 : Int))).setCell ⟨H, 2, none⟩ (.slice A3 m0 c3)) ∧ ((((w3.alloc (.cells #[.int .i64 (keep : Int), .int .i64 (n0 : Int), .slice A3 m0 c3] THD)).setCell ⟨H, 0, none⟩ (.int .i64 (keep : Int))).setCell ⟨H, 1, none⟩ (.int .i64 (n0 : Int))).setCell ⟨H, 2, none⟩ (.slice A3 m0 c3)).ownsRow 0 TIN 1 (.slice A3 m0 c3) m0 _ from ⟨((hA.set_ 0 _).set_ 1 _).set_ 2 _, (((bt X3.out (Ext.allocR _ _)).setCell (p := ⟨H, 0, none⟩) hHw _).setCell (p := ⟨H, 1, none⟩) hHw _).setCell (p := ⟨H, 2, none⟩) hHw _, own_far (own_far (own_far (own_below HO3.out (Ext.allocR _ _)) (p := ⟨H, 0, none⟩) hA (by decide) _) (p := ⟨H, 1, none⟩) (hA.set_ 0 _) (by decide) _) (p := ⟨H, 2, none⟩) ((hA.set_ 0 _).set_ 1 _) (by decide) _⟩)
      clear hA
      go_wp2_with fail
      exact ⟨⟨1, rfl, .one A3 c3 rfl rfl HE.out.2.1 (by rw [hm0]; exact HE.out.1) (by rw [hm0]; exact HE.out.2.2)⟩, by simp [intOf]⟩
    · have kf := hh.cells
      simp only [cellsAre, Nat.zero_add, Nat.reduceAdd, and_true] at kf
      have HX := Lib.hid hx
      have HH := Lib.hid hh
      have HRO := Lib.hid hro
      clear hx hh hro
      go_wp2_with fail
      refine (rat_any (HDI.out.ext HX.out) (k := 1) HTW.out).mono ?_
      rintro e w2 ⟨v2, rfl, ⟨A2, c2, rfl, ho2⟩, b2⟩
      have X2 := Lib.hid (bt HX.out b2)
      have H2 := Lib.hid (HH.out.below b2)
      have HRO2 := Lib.hid (own_below HRO.out b2)
      clear b2 kf HH HX HRO
      rcases HR1.out with ⟨hz, rfl, rfl⟩ | ⟨n1, r1, hr1, hcmp⟩
      · rw [show (lastsB bl).getD 1 z64 = z64 from hz] at ho2
        have r2 := OwB.rv ho2
        clear ho2
        go_wp2_with fail
        refine (rheads_no A2 c2 z64 0 w2 r2 rfl (by decide)).mono ?_
        rintro e w3 ⟨v3, rfl, rfl, b3⟩
        unfold hd0
        have X3 := Lib.hid (bt X2.out b3)
        have H3 := Lib.hid (H2.out.below b3)
        have O3 := Lib.hid (own_below HRO2.out b3)
        clear r2 b3 H2 X2 HRO2
        go_wp2_with fail
        exact ⟨⟨2, rfl, .two A c rfl rfl (bt X3.out (Ext.allocR _ _)) (H3.out.below (Ext.allocR _ _)) (own_below O3.out (Ext.allocR _ _))⟩, by simp [intOf]⟩
      · rw [hr1.at_] at ho2
        have r2 := OwB.rv ho2
        clear ho2
        obtain ⟨m1, hm1⟩ : ∃ m1, r1.length = m1 := ⟨_, rfl⟩
        obtain ⟨m0, hm0⟩ : ∃ m0, r0.length = m0 := ⟨_, rfl⟩
        go_wp2_with fail
        refine (rheads_ok A2 c2 keep n1 m1 r1 w2 r2 hk hr1.n9 hm1 (by have := hr1.l1; omega) (by have := hr1.l2; omega) (by have := hr1.l3; omega) hr1.le).mono ?_
        rintro e w3 ⟨v3, rfl, ⟨A3, c3, rfl, ho3⟩, b3⟩
        unfold hdV
        have X3 := Lib.hid (bt X2.out b3)
        have h3 := H2.out.below b3
        rw [hm0] at h3
        have k3 := h3.cells
        have f3 := h3.free
        have HO3 := Lib.hid (show w3.ownsRow 0 TIN 1 (.slice A3 m1 c3) m1 (ri r1) from own_lower ho3 (Nat.zero_le _))
        have O3 := Lib.hid (own_below HRO2.out b3)
        simp only [cellsAre, Nat.zero_add, Nat.reduceAdd, and_true] at k3
        have H3 := Lib.hid h3
        have HHM := Lib.hid (And.intro hm0 hm1)
        clear r2 b3 H2 X2 h3 ho3 HRO2 hr1 hm0 hm1
        rcases hcmp with ⟨hlt, rfl, rfl⟩ | ⟨hlt, rfl, rfl⟩
        · have pl : (n0 : Int) < (n1 : Int) := by omega
          have hA : Blk (w3.alloc (.cells #[.int .i64 (keep : Int), .int .i64 (n1 : Int), .slice A3 m1 c3] THD)) H THD _ := H3.out.alloc _
          have fA := hA.free
          have kA := hA.cells
          simp only [cellsAre, Nat.zero_add, Nat.reduceAdd, and_true] at kA
          have HE := Lib.hid (show Blk ((((w3.alloc (.cells #[.int .i64 (keep : Int), .int .i64 (n1 : Int), .slice A3 m1 c3] THD)).setCell ⟨H, 0, none⟩ (.int .i64 (keep : Int))).setCell ⟨H, 1, none⟩ (.int .i64 (n1 : Int))).setCell ⟨H, 2, none⟩ (.slice A3 m1 c3)) H THD #[.int .i64 (keep : Int), .int .i64 (n1 : Int), .slice A3 m1 c3] ∧ Ext w ((((w3.alloc (.cells #[.int .i64 (keep : Int), .int .i64 (n1 : Int), .slice A3 m1 c3] THD)).setCell ⟨H, 0, none⟩ (.int .i64 (keep : Int))).setCell ⟨H, 1, none⟩ (.int .i64 (n1 : Int))).setCell ⟨H, 2, none⟩ (.slice A3 m1 c3)) ∧ ((((w3.alloc (.cells #[.int .i64 (keep : Int), .int .i64 (n1 : Int), .slice A3 m1 c3] THD)).setCell ⟨H, 0, none⟩ (.int .i64 (keep : Int))).setCell ⟨H, 1, none⟩ (.int .i64 (n1 : Int))).setCell ⟨H, 2, none⟩ (.slice A3 m1 c3)).ownsRow 0 TIN 1 (.slice A3 m1 c3) m1 _ from ⟨((hA.set_ 0 _).set_ 1 _).set_ 2 _, (((bt X3.out (Ext.allocR _ _)).setCell (p := ⟨H, 0, none⟩) hHw _).setCell (p := ⟨H, 1, none⟩) hHw _).setCell (p := ⟨H, 2, none⟩) hHw _, own_far (own_far (own_far (own_below HO3.out (Ext.allocR _ _)) (p := ⟨H, 0, none⟩) hA (by decide) _) (p := ⟨H, 1, none⟩) (hA.set_ 0 _) (by decide) _) (p := ⟨H, 2, none⟩) ((hA.set_ 0 _).set_ 1 _) (by decide) _⟩)
          clear hA
          go_wp2_with fail
          exact ⟨⟨2, rfl, .two A3 c3 rfl rfl HE.out.2.1 (by rw [HHM.out.2]; exact HE.out.1) (by rw [HHM.out.2]; exact HE.out.2.2)⟩, by simp [intOf]⟩
        · have pl : ¬ (n0 : Int) < (n1 : Int) := by omega
          have hA : Blk (w3.alloc (.cells #[.int .i64 (keep : Int), .int .i64 (n1 : Int), .slice A3 m1 c3] THD)) H THD _ := H3.out.alloc _
          have kA := hA.cells
          simp only [cellsAre, Nat.zero_add, Nat.reduceAdd, and_true] at kA
          clear hA
          go_wp2_with fail
          exact ⟨⟨2, rfl, .two A c rfl rfl (bt X3.out (Ext.allocR _ _)) (by rw [HHM.out.1]; exact H3.out.below (Ext.allocR _ _)) (own_below O3.out (Ext.allocR _ _))⟩, by simp [intOf]⟩
    · have kf := hh.cells
      simp only [cellsAre, Nat.zero_add, Nat.reduceAdd, and_true] at kf
      obtain ⟨m2, hm2⟩ : ∃ m2, rs.length = m2 := ⟨_, rfl⟩
      have hr2 := own_rvv hro
      have HC := Lib.hid (HRD.out wr A c hx hr2)
      unfold hdV at HC
      rw [hm2] at kf HC
      have HX := Lib.hid hx
      clear hx hh hro hr2 hm2
      go_wp2_with fail
      refine HC.out.mono ?_
      rintro e w5 ⟨v5, rfl, ⟨s, vs, B, rfl, ha⟩, b5⟩
      have HE := Lib.hid (show STl F w5 s d keep n Vs left from ⟨vs, B, bl, ha.si, HST.out.2.of_eq ha.eq, HFW.out.1, HFW.out.2, by rw [HNN.out]; exact HST.out.1.of_eq ha.eq ha.on⟩)
      have X5 := Lib.hid (bt HX.out b5)
      clear ha b5 kf HC
      go_wp2
      go_returns
      exact ⟨_, rfl, ⟨s, rfl, HE.out⟩, X5.out⟩
end Go.Proofs.Tb
