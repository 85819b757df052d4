/- StoreAgain: the walk. -/
import Derived.Test.YtfljnfdeboibhaaGreatRoq
set_option linter.unusedVariables false
set_option linter.unusedSimpArgs false
namespace Go.Proofs.Tb
open Go.Maps Go.RowKit Go.Lib
attribute [local go_sem] cell_set_same neqMapL

theorem and3 (y : Int) : ∃ b : Nat, b ≤ 3 ∧ bits .and .i64 y 3 = (b : Int) := by
  have e : bits .and .i64 y 3 = IntKind.i64.wrap ((BitVec.ofInt 64 y &&& BitVec.ofInt 64 3).toNat : Int) := rfl
  have h : (BitVec.ofInt 64 y &&& BitVec.ofInt 64 3).toNat ≤ 3 := by
    rw [BitVec.toNat_and]
    exact Nat.and_le_right
  refine ⟨_, h, ?_⟩
  rw [e, IntWalk.i64_in _ (by omega)]
theorem and7a (y : Int) : ∃ b : Nat, b ≤ 7 ∧ bits .and .i64 y 7 = (b : Int) := by
  have e : bits .and .i64 y 7 = IntKind.i64.wrap ((BitVec.ofInt 64 y &&& BitVec.ofInt 64 7).toNat : Int) := rfl
  have h : (BitVec.ofInt 64 y &&& BitVec.ofInt 64 7).toNat ≤ 7 := by
    rw [BitVec.toNat_and]
    exact Nat.and_le_right
  refine ⟨_, h, ?_⟩
  rw [e, IntWalk.i64_in _ (by omega)]
theorem OpX.ext {w w' : World} {A : Option Addr} {n c : Nat} (h : OpX w A n c) (x : Ext w w') : OpX w' A n c :=
  ⟨h.le, h.cap, fun j hj => by
    obtain ⟨b, o, e, A', n', c', cs, h1, h2, h3⟩ := h.at_ j hj
    exact ⟨b, o, e, A', n', c', cs, ext_cell x h1, h2.below x, h3⟩⟩
/-- The disk of a store. -/
theorem STl.disk {F : Nat → Prop} {w : World} {s d keep n left : Nat} {Vs : List (List Pr)} (h : STl F w s d keep n Vs left) : ∃ bl, DW F w d bl false left ∧ Sdd (lastsB bl) keep Vs ∧ (∀ k, (bl.getD k []).length ≤ 1) ∧ bl.length = n := by
  obtain ⟨vs, B, bl, h1, h2, h3, h4, h5⟩ := h
  exact ⟨bl, h1.dk, ⟨vs, B, h5, h2, h1.bm⟩, h3, h4⟩
/-- A disk that a store was seen on. -/
def DkS (F : Nat → Prop) (w : World) (d keep n : Nat) (Vs : List (List Pr)) : Prop := ∃ bl, DW F w d bl false 0 ∧ Sdd (lastsB bl) keep Vs ∧ (∀ k, (bl.getD k []).length ≤ 1) ∧ bl.length = n
theorem DkS.ext {F : Nat → Prop} {w w' : World} {d keep n : Nat} {Vs : List (List Pr)} (h : DkS F w d keep n Vs) (x : Ext w w') : DkS F w' d keep n Vs := by
  obtain ⟨bl, h1, h2⟩ := h
  exact ⟨bl, h1.ext x, h2⟩
/-- The disk's clone, and Open of it. -/
theorem dks_clone {F : Nat → Prop} {w : World} {d keep n : Nat} {Vs : List (List Pr)} (h : DkS F w d keep n Vs) (hn : 1 ≤ n) (hF : ∀ b, w.heap.size ≤ b → F b) :
    Calls Tryz.prog 15 #[.pointer (some ⟨d, 0, none⟩)] w (Ret (fun z w' => ∃ d2, z = .pointer (some ⟨d2, 0, none⟩) ∧ DkS F w' d2 keep n Vs) w) := by
  obtain ⟨bl, h1, h2, h3, h4⟩ := h
  refine (rdclone_ok h1 (by omega) fun k => Nat.le_trans (h3 k) (by omega)).mono ?_
  rintro e w' ⟨z, rfl, ⟨d2, rfl, g⟩, b⟩
  exact ⟨_, rfl, ⟨d2, rfl, bl, g.imp hF, h2, h3, h4⟩, b⟩
theorem dks_open {F : Nat → Prop} {w : World} {d keep n : Nat} {Vs : List (List Pr)} (h : DkS F w d keep n Vs) (hF : ∀ b, w.heap.size ≤ b → F b) (hk : keep ≤ 8) (hV : Vs.length ≤ 100000) (hVl : ∀ l ∈ Vs, l.length ≤ 10000) (ka : Nat) (hka : ka ≤ 8) :
    Calls Tryz.prog 16 #[.pointer (some ⟨d, 0, none⟩), .int .i64 (ka : Int)] w (Ret (fun z w' => ∃ s, z = .tuple #[.pointer (some ⟨s, 0, none⟩), .int .i64 0] ∧ STl F w' s d keep n Vs 0) w) := by
  obtain ⟨bl, h1, h2, h3, h4⟩ := h
  exact ropen_at h1 hF h2 h3 h4 hk hV hVl ka hka
set_option maxHeartbeats 12800000 in
set_option maxRecDepth 100000 in
theorem ragain_any (A : Option Addr) (nx cx : Nat) (k0 k1 : Int) (Ay : Option Addr) (ny cy : Nat) (ys : List Cg) (w : World) (h : OpX w A nx cx) (hy : Rv w 3 Ay ny cy (ccs ys)) (hys : ∀ x ∈ ys, x.k.size ≤ 9223372036854775807 ∧ x.v.size ≤ 9223372036854775807) :
    Calls Tryz.prog 3 #[.slice A nx cx, .agg #[.int .i64 k0, .int .i64 k1], .slice Ay ny cy] w (Ret (fun z _ => z = .bool true) w) := by
  obtain ⟨keep, hkp, eb⟩ := and3 k0
  obtain ⟨other, hko, eb2⟩ := and7a k1
  have hle := h.le
  have hcp := h.cap
  have HX := Lib.hid h
  have HY := Lib.hid (And.intro hy hys)
  clear h hy hys
  go_enter Tryz.func3, Tryz.ntmps3
  go_upto_region 1 with fail
  go_region
  have x0 : Ext w (w.alloc (.cells #[.int .i64 k0, .int .i64 k1] 23)).drew := bt (Ext.allocR _ _) (Ext.drew _)
  go_upto_region 2 with fail
  refine wp_world (fun W => Ext w W) x0 ?_
  rintro W0 hx0
  have X0 := Lib.hid hx0
  clear x0 hx0
  go_wp2_with fail
  refine (rfilled_any A nx cx 10 keep (by omega) (by omega) W0 (HX.out.ext X0.out)).mono ?_
  rintro e w1 ⟨v1, rfl, ⟨s, d, rv, Vs, rfl, hs, hr, hl1, hl2⟩, b1⟩
  obtain ⟨A1, m1, c1, rfl, hh1⟩ := hr.form
  clear hh1
  have HS1 := Lib.hid (show STl (fun b => w.heap.size ≤ b) w1 s d keep 1536 Vs 0 from hs.imp fun b hb => Nat.le_trans X0.out.size hb)
  have HR1 := Lib.hid hr
  have X1 := Lib.hid (bt X0.out b1)
  have HL2 := Lib.hid hl2
  have hVp := STx.pos hs
  obtain ⟨L0, hL0⟩ : ∃ L0, Vs.getD (Vs.length - 1) [] = L0 := ⟨_, rfl⟩
  have hL0m : L0.length ≤ 360 := by rw [← hL0]; exact last_le hl2 hVp
  have HL0 := Lib.hid hL0
  clear hs hr b1 hl2 hL0 X0
  go_upto_region 3 with fail
  have x2 : Ext w1 (w1.alloc (.cells #[.slice A1 m1 c1, .int .i64 (keep : Int)] TRS)) := Ext.allocR _ _
  refine wp_world (fun W => STl (fun b => w.heap.size ≤ b) W s d keep 1536 Vs 0 ∧ RbX W w1.heap.size Vs keep ∧ Ext w W) ⟨HS1.out.ext x2, ⟨A1, m1, c1, HR1.out.ext x2, Blk.new_ _ _ rfl⟩, bt X1.out x2⟩ ?_
  obtain ⟨H, hH⟩ : ∃ H, w1.heap.size = H := ⟨_, rfl⟩
  have hwH : w.heap.size ≤ H := by rw [← hH]; exact X1.out.size
  rw [hH]
  rintro W2 ⟨hs2, hr2, hx2⟩
  have HS2 := Lib.hid hs2
  have HR2 := Lib.hid hr2
  have X2 := Lib.hid hx2
  clear x2 hs2 hr2 hx2 HS1 HR1 X1 hH
  go_wp2_with fail
  refine (rlives_any W2).mono ?_
  rintro e w3 ⟨v3, rfl, rfl, b3⟩
  have HS3 := Lib.hid (HS2.out.ext b3)
  have HR3 := Lib.hid (HR2.out.ext b3)
  have X3 := Lib.hid (bt X2.out b3)
  clear b3 HS2 HR2 X2
  go_wp2_with fail
  go_loopw [9, 10, 12] (fun sv dv i wr => ∃ (j s d : Nat), j ≤ 3 ∧ i = .int .i64 (j : Int) ∧ sv = .pointer (some ⟨s, 0, none⟩) ∧ dv = .pointer (some ⟨d, 0, none⟩) ∧ STl (fun b => w.heap.size ≤ b) wr s d keep 1536 Vs 0 ∧ RbX wr H Vs keep ∧ Ext w wr) (fun _ _ i _ => 3 - (intOf i).toNat)
  case atStart => exact ⟨0, s, d, by omega, rfl, rfl, rfl, HS3.out, HR3.out, X3.out⟩
  case round =>
    clear HS3 HR3 X3
    obtain ⟨j, s, d, hj3, rfl, rfl, rfl, hs, hr, hx⟩ := hrel
    have HS := Lib.hid hs
    have HR := Lib.hid hr
    have X := Lib.hid hx
    clear hs hr hx
    by_cases hjj : j < 3
    · have p1 : (j : Int) < 3 := by omega
      have wj : IntKind.i64.wrap ((j : Int) + 1) = ((j + 1 : Nat) : Int) := by rw [IntWalk.i64_in _ (by omega)]; rfl
      go_wp2_with fail
      refine (dks_clone HS.out.disk (by omega) fun b hb => Nat.le_trans X.out.size hb).mono ?_
      rintro e w4 ⟨v4, rfl, ⟨d2, rfl, hd4⟩, b4⟩
      have HD4 := Lib.hid hd4
      have HR4 := Lib.hid (HR.out.ext b4)
      have X4 := Lib.hid (bt X.out b4)
      clear b4 hd4 HS HR X
      go_wp2_with fail
      refine (dks_open HD4.out (fun b hb => Nat.le_trans X4.out.size hb) (by omega) (by omega) (fun x hx => by have := HL2.out x hx; omega) other (by omega)).mono ?_
      rintro e w5 ⟨v5, rfl, ⟨s2, rfl, hs5⟩, b5⟩
      have HS5 := Lib.hid hs5
      have HR5 := Lib.hid (HR4.out.ext b5)
      have X5 := Lib.hid (bt X4.out b5)
      clear b5 hs5 HD4 HR4 X4
      go_wp2_with fail
      refine (stl_broken HS5.out).mono ?_
      rintro e w6 ⟨v6, rfl, rfl, b6⟩
      have HS6 := Lib.hid (HS5.out.ext b6)
      have HR6 := Lib.hid (HR5.out.ext b6)
      have X6 := Lib.hid (bt X5.out b6)
      clear b6 HS5 HR5 X5
      obtain ⟨A6, m6, c6, hr6, hk6⟩ := HR6.out
      have k6 := hk6.cells
      simp only [cellsAre, Nat.zero_add, Nat.reduceAdd, and_true] at k6
      have HV6 := Lib.hid hr6
      clear hr6 hk6
      go_wp2_with fail
      refine (stl_alike HS6.out HV6.out (by omega) (by omega) (fun x hx => by have := HL2.out x hx; omega)).mono ?_
      rintro e w7 ⟨v7, rfl, rfl, b7⟩
      have HS7 := Lib.hid (HS6.out.ext b7)
      have HR7 := Lib.hid (HR6.out.ext b7)
      have X7 := Lib.hid (bt X6.out b7)
      clear b7 HS6 HR6 X6 HV6 k6
      go_wp2_with fail
      exact ⟨⟨j + 1, s2, d2, by omega, rfl, rfl, rfl, HS7.out, HR7.out, X7.out⟩, by simp [intOf]; omega⟩
    · have p1 : ¬ (j : Int) < 3 := by omega
      go_wp2_with fail
      refine (rbat_any Ay ny cy ys 6 wr (HY.out.1.below X.out) HY.out.2 (by omega)).mono ?_
      rintro e w6 ⟨v6, rfl, ⟨l, hol, hll, hcu⟩, b6⟩
      obtain ⟨Al, cl, rfl, hrl⟩ := own_rv hol
      have HS6 := Lib.hid (HS.out.ext b6)
      have HR6 := Lib.hid (HR.out.ext b6)
      have X6 := Lib.hid (bt X.out b6)
      have OL6 := Lib.hid hol
      have RL6 := Lib.hid hrl
      have CU := Lib.hid hcu
      clear b6 hol hrl hcu HS HR X
      go_wp2_with fail
      refine (zbatch_any Al _ cl l w6 RL6.out (by omega) (fun x hx => by have := CU.out x hx; omega)).mono ?_
      rintro e w7 ⟨v7, rfl, rfl, b7⟩
      have HS7 := Lib.hid (HS6.out.ext b7)
      have HR7 := Lib.hid (HR6.out.ext b7)
      have X7 := Lib.hid (bt X6.out b7)
      have OL7 := Lib.hid (own_below OL6.out b7)
      have RL7 := Lib.hid (RL6.out.below b7)
      clear b7 HS6 HR6 X6 OL6 RL6
      cases hbat : batB l with
      | false =>
        clear hbat
        go_wp2_with fail
        (try simp only [Exit.inBlock, Exit.then])
        refine bodyPost_ret (v := (.bool true)) (by simp [results, Tryz.results3, go_sem, *]) rfl ?_
        exact ⟨_, rfl, rfl, X7.out⟩
      | true =>
        have HBT := Lib.hid hbat
        clear hbat
        obtain ⟨A7, m7, c7, hr7, hk7⟩ := HR7.out
        have k7 := hk7.cells
        simp only [cellsAre, Nat.zero_add, Nat.reduceAdd, and_true] at k7
        have HV7 := Lib.hid hr7
        clear hr7 hk7
        go_wp2_with fail
        refine (zfits_any HV7.out (by omega) (by omega) (by omega) HL0.out (fun x hx => by have := HL2.out x hx; omega) Al _ cl l RL7.out (by omega) 1536).mono ?_
        rintro e w8 ⟨v8, rfl, rfl, b8⟩
        have HS8 := Lib.hid (HS7.out.ext b8)
        have HR8 := Lib.hid (HR7.out.ext b8)
        have X8 := Lib.hid (bt X7.out b8)
        have OL8 := Lib.hid (own_below OL7.out b8)
        clear b8 HS7 HR7 X7 OL7 RL7 HV7 k7
        cases hfit : fitB Vs keep (aft L0 l) 1536 with
        | false =>
          clear hfit
          go_wp2_with fail
          (try simp only [Exit.inBlock, Exit.then])
          refine bodyPost_ret (v := (.bool true)) (by simp [results, Tryz.results3, go_sem, *]) rfl ?_
          exact ⟨_, rfl, rfl, X8.out⟩
        | true =>
          have HFT := Lib.hid hfit
          have HLN := Lib.hid (fit_len hfit hVp)
          clear hfit
          go_wp2_with fail
          refine (st_commit_z HS8.out (fun b hb => Nat.le_trans X8.out.size hb) (by omega) (by omega) (by omega) HL0.out (by omega) Al _ cl l (own_rvv OL8.out) HBT.out HFT.out).mono ?_
          rintro e wa ha
          rcases ha with ⟨lf', rfl, _, hsa, hga⟩ | ⟨h0, _⟩
          · unfold ansV
            have HSa := Lib.hid hsa
            have HRa := Lib.hid (HR8.out.chg hga)
            have Xa := Lib.hid (ext_chg X8.out hga fun b o hX => hX.1)
            have OLa := Lib.hid (OwC.chg OL8.out hga MF.tcg)
            have HL3 := Lib.hid (show ∀ x ∈ Vs ++ [aft L0 l], x.length ≤ 360 from fun x hx => by
              rcases List.mem_append.1 hx with hx | hx
              · exact HL2.out x hx
              · rw [List.mem_singleton.1 hx]; exact HLN.out)
            clear hsa hga HS8 HR8 X8 OL8
            obtain ⟨A8, m8, c8, hr8, hk8⟩ := HRa.out
            have k8 := hk8.cells
            simp only [cellsAre, Nat.zero_add, Nat.reduceAdd, and_true] at k8
            have HV8 := Lib.hid hr8
            clear hr8 hk8
            go_wp2_with fail
            refine (zcommit_any HV8.out (by omega) (by omega) HL0.out (by omega) Al _ cl l (own_rvv OLa.out) (by omega)).mono ?_
            rintro e wb ⟨vb, rfl, hrb, bb⟩
            have HSb := Lib.hid (HSa.out.ext bb)
            have Xb := Lib.hid (bt Xa.out bb)
            have HRb := Lib.hid hrb
            clear bb hrb HSa HRa Xa OLa HV8 k8
            obtain ⟨Ab, mb, cb, rfl, hhb⟩ := HRb.out.form
            clear hhb
            go_wp2_with fail
            refine (stl_alike HSb.out HRb.out (by rw [List.length_append, List.length_singleton]; omega) (by omega) (fun x hx => by have := HL3.out x hx; omega)).mono ?_
            rintro e wc ⟨vc_, rfl, rfl, bc_⟩
            have Xc := Lib.hid (bt Xb.out bc_)
            clear bc_ HSb HRb Xb
            go_wp2_with fail
            (try simp only [Exit.inBlock, Exit.then])
            refine bodyPost_ret (v := (.bool true)) (by simp [results, Tryz.results3, go_sem, *]) rfl ?_
            exact ⟨_, rfl, rfl, Xc.out⟩
          · exact absurd rfl h0
end Go.Proofs.Tb
