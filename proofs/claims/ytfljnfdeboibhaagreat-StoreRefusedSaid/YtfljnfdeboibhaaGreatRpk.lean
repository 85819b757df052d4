/- StoreRefused: the walk. -/
import Derived.Test.YtfljnfdeboibhaaGreatRpe
import Derived.Test.YtfljnfdeboibhaaGreatRos
import Derived.Test.YtfljnfdeboibhaaGreatRpj
set_option linter.unusedVariables false
set_option linter.unusedSimpArgs false
namespace Go.Proofs.Tb
open Go.Maps Go.RowKit Go.Lib
attribute [local go_sem] cell_set_same neqMapL

abbrev TQU : TypeId := 71
section
variable {F : Nat → Prop} {w : World} {s d keep n left : Nat} {Vs : List (List Pr)}
theorem ret_any {f : FuncId} {args : Array Value} {Phi : Value → World → Prop} (h : Calls Tryz.prog f args w (Ret Phi w)) : Calls Tryz.prog f args w (Ret (fun _ _ => True) w) :=
  h.mono fun _ _ ⟨v, e, _, b⟩ => ⟨v, e, trivial, b⟩
/-- Whatever is asked, all stays. -/
theorem st_get_u (h : STl F w s d keep n Vs left) (hV : Vs.length ≤ 100000) (v : Int) (k : Str) (hks : k.size ≤ 1000000000) :
    Calls Tryz.prog 37 #[.pointer (some ⟨s, 0, none⟩), .int .i64 v, .string k] w (Ret (fun _ _ => True) w) := by
  obtain ⟨kb, hk⟩ : ∃ kb, keyB k = kb := ⟨_, rfl⟩
  by_cases hne : verS Vs keep v ≠ 0 ∨ kb = false
  · exact ret_any (st_get_bad h hV v k hks hk hne)
  · have h0 : verS Vs keep v = 0 := by
      rcases Classical.em (verS Vs keep v = 0) with h | h
      · exact h
      · exact absurd (Or.inl h) hne
    have h1 : keyB k = true := by
      cases kb with
      | true => exact hk
      | false => exact absurd (Or.inr rfl) hne
    obtain ⟨a, rfl, ha, hka⟩ := verS_zero h.pos h0
    obtain ⟨vs, B, g1, g2⟩ := h.sr
    obtain ⟨t, hi, ht, hp, hs⟩ := g2.kept ha hka
    exact ret_any (rget_ok g1 g2.vsn (by omega) hi (v := (a : Int)) (by omega) ht (by rw [hp]; exact hs) k h1 hks)
theorem st_range_u (h : STl F w s d keep n Vs left) (hV : Vs.length ≤ 100000) (hz : ∀ l ∈ Vs, l.length ≤ 100000) (v : Int) (low high : Str) (most : Int) (hm : most ≤ 9223372036854775807) (hh : high.size ≤ 1000000000) :
    Calls Tryz.prog 31 #[.pointer (some ⟨s, 0, none⟩), .int .i64 v, .string low, .string high, .int .i64 most] w (Ret (fun _ _ => True) w) := by
  by_cases h0 : most < 0
  · exact ret_any (st_range_neg h hV v low high most h0)
  · obtain ⟨m, rfl⟩ := Int.eq_ofNat_of_zero_le (show 0 ≤ most by omega)
    by_cases hne : verS Vs keep v = 0
    · obtain ⟨a, rfl, ha, hka⟩ := verS_zero h.pos hne
      exact ret_any (st_range_any h hV ha hka hz low high m (by omega) hh)
    · exact ret_any (st_range_err h hV v hne low high m)
theorem st_diff_u (h : STl F w s d keep n Vs left) (hV : Vs.length ≤ 100000) (hz : ∀ l ∈ Vs, l.length ≤ 100000) (a b : Int) :
    Calls Tryz.prog 35 #[.pointer (some ⟨s, 0, none⟩), .int .i64 a, .int .i64 b] w (Ret (fun _ _ => True) w) := by
  by_cases hne : verS Vs keep a ≠ 0 ∨ verS Vs keep b ≠ 0
  · exact ret_any (st_diff_err h hV a b hne)
  · have h0 : verS Vs keep a = 0 := by
      rcases Classical.em (verS Vs keep a = 0) with h | h
      · exact h
      · exact absurd (Or.inl h) hne
    have h1 : verS Vs keep b = 0 := by
      rcases Classical.em (verS Vs keep b = 0) with h | h
      · exact h
      · exact absurd (Or.inr h) hne
    obtain ⟨x, rfl, hx, hkx⟩ := verS_zero h.pos h0
    obtain ⟨y, rfl, hy, hky⟩ := verS_zero h.pos h1
    exact ret_any (st_diff_ok h hV hx hy hkx hky hz)
theorem st_all_u (h : STl F w s d keep n Vs left) (hV : Vs.length ≤ 100000) (v : Int) :
    Calls Tryz.prog 43 #[.pointer (some ⟨s, 0, none⟩), .int .i64 v] w (Ret (fun _ _ => True) w) := by
  obtain ⟨vs, B, g1, g2⟩ := h.sr
  exact ret_any (rall_any g1 g2.vsn (by omega) v)
theorem st_commit_bad (h : STl F w s d keep n Vs left) (A : Option Addr) (m c : Nat) (cs : List Cg) (hr : Rv w 3 A m c (ccs cs)) (hn : m ≤ 1000) (hcs : ∀ c ∈ cs, c.k.size ≤ 1000000000 ∧ c.v.size ≤ 1000000000) (hb : batB cs = false) :
    Calls Tryz.prog 22 #[.pointer (some ⟨s, 0, none⟩), .slice A m c] w fun e w' => e = ansV 0 1 ∧ Ext w w' := by
  obtain ⟨vs, B, g1, g2⟩ := h.sr
  obtain ⟨A', m', c', hb', _⟩ := g1.se
  exact rcommit_bad s d _ _ w hb' A m c cs hr hn hcs hb
theorem st_loose (h : STl F w s d keep n Vs left) : Calls Tryz.prog 45 #[.pointer (some ⟨d, 0, none⟩)] w (Ret (fun z _ => z = .int .i64 0) w) := by
  obtain ⟨bl, h1, _, h3, _⟩ := h.disk
  have := rloose_ok h1
  rw [looC_zero h3] at this
  exact this
end
theorem own_set {base : Nat} {w : World} {T : TypeId} {k n g c : Nat} {xs : List Value} (h : w.ownsRow base T k (.slice (some ⟨g, 0, none⟩) n c) n xs) (h0 : 0 < n) (i : Nat) (u : Value) : (w.setCell ⟨g, i, none⟩ u).ownsRow base T k (.slice (some ⟨g, 0, none⟩) n c) n (xs.set i u) := by
  rcases h.2 with ⟨_, hz⟩ | ⟨g', cap, cur, e, hg, hb, h1, h2, h3, h4⟩
  · omega
  · injection e with e e2 e3
    injection e with e
    injection e with e
    subst e e3
    refine ⟨by rw [List.length_set]; exact h.1, .inr ⟨g, c, cur.setIfInBounds i u, rfl, hg, Blk.set_ (show Blk w g T cur from hb) i u, h1, h2, by simpa using h3, ?_⟩⟩
    rw [Array.toList_setIfInBounds, List.take_set, h4]
set_option maxHeartbeats 12800000 in
set_option maxRecDepth 100000 in
theorem rrefused_any (A : Option Addr) (nx cx : Nat) (qf qt qm : Int) (ql qh : Str) (Ay : Option Addr) (ny cy : Nat) (ys : List Cg) (w : World) (h : OpX w A nx cx) (hql : ql.size ≤ 9223372036854775807) (hqh : qh.size ≤ 9223372036854775807) (hqm : qm ≤ 9223372036854775807) (hy : Rv w 3 Ay ny cy (ccs ys)) (hys : ∀ x ∈ ys, x.k.size ≤ 9223372036854775807 ∧ x.v.size ≤ 9223372036854775807) :
    Calls Tryz.prog 10 #[.slice A nx cx, .agg #[.int .i64 qf, .int .i64 qt, .string ql, .string qh, .int .i64 qm], .slice Ay ny cy] w (Ret (fun z _ => z = .bool true) w) := by
  have hle := h.le
  have hcp := h.cap
  have HX := Lib.hid h
  have HY := Lib.hid (And.intro hy hys)
  obtain ⟨kt, hkt, ekt⟩ := and7a qt
  have ql1 : 0 ≤ min (ql.size : Int) 50 := by omega
  have ql2 : min (ql.size : Int) 50 ≤ (ql.size : Int) := by omega
  have qh1 : 0 ≤ min (qh.size : Int) 50 := by omega
  have qh2 : min (qh.size : Int) 50 ≤ (qh.size : Int) := by omega
  clear h hy hys
  go_enter Tryz.func10, Tryz.ntmps10
  go_upto_region 1 with fail
  have x0 : Ext w (w.alloc (.cells #[.int .i64 qf, .int .i64 qt, .string ql, .string qh, .int .i64 qm] TQU)) := Ext.allocR _ _
  refine wp_world (fun W => Ext w W ∧ Blk W w.heap.size TQU #[.int .i64 qf, .int .i64 qt, .string ql, .string qh, .int .i64 qm]) ⟨x0, Blk.new_ _ _ rfl⟩ ?_
  obtain ⟨Q, hQ⟩ : ∃ Q, w.heap.size = Q := ⟨_, rfl⟩
  rw [hQ]
  rintro W0 ⟨hx0, hq0⟩
  have X0 := Lib.hid hx0
  have Q0 := Lib.hid hq0
  clear x0 hx0 hq0
  go_wp2_with fail
  refine (rfilled_any A nx cx 8 1 (by omega) (by omega) W0 (HX.out.ext X0.out)).mono ?_
  rintro e w1 ⟨v1, rfl, ⟨s, d, rv, Vs, rfl, hs, hr, hl1, hl2⟩, b1⟩
  obtain ⟨A1, m1, c1, rfl, hh1⟩ := hr.form
  clear hh1
  have HS1 := Lib.hid (show STl (fun b => w.heap.size ≤ b) w1 s d 1 1536 Vs 0 from hs.imp fun b hb => Nat.le_trans X0.out.size hb)
  have HR1 := Lib.hid hr
  have X1 := Lib.hid (bt X0.out b1)
  have Q1 := Lib.hid (Q0.out.below b1)
  have HL2 := Lib.hid hl2
  have hVp := STx.pos hs
  clear hs hr b1 hl2 X0 Q0
  go_upto_region 2 with fail
  have x2 : Ext w1 (w1.alloc (.cells #[.slice A1 m1 c1, .int .i64 ((1 : Nat) : Int)] TRS)) := Ext.allocR _ _
  refine wp_world (fun W => STl (fun b => w.heap.size ≤ b) W s d 1 1536 Vs 0 ∧ RbX W w1.heap.size Vs 1 ∧ Ext w W ∧ Blk W Q TQU #[.int .i64 qf, .int .i64 qt, .string ql, .string qh, .int .i64 qm]) ⟨HS1.out.ext x2, ⟨A1, m1, c1, HR1.out.ext x2, Blk.new_ _ _ rfl⟩, bt X1.out x2, Q1.out.below x2⟩ ?_
  obtain ⟨H, hH⟩ : ∃ H, w1.heap.size = H := ⟨_, rfl⟩
  rw [hH]
  rintro W2 ⟨hs2, hr2, hx2, hq2⟩
  have HS2 := Lib.hid hs2
  have HR2 := Lib.hid hr2
  have X2 := Lib.hid hx2
  have Q2 := Lib.hid hq2
  clear x2 hs2 hr2 hx2 hq2 HS1 HR1 X1 Q1 hH hQ
  go_wp2_with fail
  refine (rlives_any W2).mono ?_
  rintro e w3 ⟨v3, rfl, rfl, b3⟩
  have HS3 := Lib.hid (HS2.out.ext b3)
  have HR3 := Lib.hid (HR2.out.ext b3)
  have X3 := Lib.hid (bt X2.out b3)
  have Q3 := Lib.hid (Q2.out.below b3)
  clear b3 HS2 HR2 X2 Q2
  go_wp2_with fail
  refine (rbat_any Ay ny cy ys 16 w3 (HY.out.1.below X3.out) HY.out.2 (by omega)).mono ?_
  rintro e w4 ⟨v4, rfl, ⟨l, hol, hll, hcu⟩, b4⟩
  obtain ⟨Al, cl, rfl, hrl⟩ := own_rv hol
  have B4 := Lib.hid (show Ext w3 w4 from b4)
  have RL := Lib.hid hrl
  have OL := Lib.hid hol
  have CU := Lib.hid hcu
  clear hol b4 hrl hcu
  go_wp2_with fail
  refine (zbatch_any Al _ cl l w4 RL.out (by omega) (fun x hx => by have := CU.out x hx; omega)).mono ?_
  rintro e w5 ⟨v5, rfl, rfl, b5⟩
  have B5 := Lib.hid (bt B4.out b5)
  have RL5 := Lib.hid (RL.out.below b5)
  have OL5 := Lib.hid (own_below OL.out b5)
  clear b5 RL OL B4
  cases hbat : batB l with
  | false =>
    have HBT := Lib.hid hbat
    have HB := Lib.hid B5.out
    have HRL := Lib.hid RL5.out
    have HCU := Lib.hid (show ∀ x ∈ l, x.k.size ≤ 1000000000 ∧ x.v.size ≤ 1000000000 from fun x hx => by have := CU.out x hx; omega)
    clear hbat B5 RL5 OL5 CU
    obtain ⟨nl, hnl⟩ : ∃ nl, l.length = nl := ⟨_, rfl⟩
    rw [hnl] at hll HRL ⊢
    clear hnl
    have HS6 := Lib.hid (HS3.out.ext HB.out)
    have HR6 := Lib.hid (HR3.out.ext HB.out)
    have X6 := Lib.hid (bt X3.out HB.out)
    have Q6 := Lib.hid (Q3.out.below HB.out)
    clear HS3 HR3 X3 Q3 HB
    go_wp2_with fail
    refine (st_commit_bad HS6.out _ nl cl l HRL.out (by omega) HCU.out HBT.out).mono ?_
    rintro e w7 ⟨rfl, b7⟩
    unfold ansV
    have HS7 := Lib.hid (HS6.out.ext b7)
    have HR7 := Lib.hid (HR6.out.ext b7)
    have X7 := Lib.hid (bt X6.out b7)
    have Q7 := Lib.hid (Q6.out.below b7)
    clear b7 HS6 HR6 X6 Q6 HRL HCU HBT
    have kq := fun w' (hh : Ext w7 w') => (Q7.out.below hh).cells
    simp only [cellsAre, Nat.zero_add, Nat.reduceAdd, and_true] at kq
    have hst : Ext w7 w7.drew := Ext.drew _
    go_upto_region 8 with fail
    refine wp_region_adv 10 [] [(0, true, some 40, none), (1, true, some 41, none), (2, true, some 42, none), (3, true, some 43, none), (4, true, some 44, none), (5, true, some 45, none), (6, true, some 46, none), (7, true, some 47, none), (8, true, some 48, none), (9, true, some 49, none)] (by kernel_rfl) (by kernel_rfl) (by kernel_rfl) (by intro it hit; (repeat (rcases List.mem_cons.1 hit with rfl | hit; (focus (intro o ho ev w; injection ho with ho; subst ho; kernel_rfl)))); cases hit) (fun _ _ _ _ _ => ⟨fun h => h, fun h => h⟩) hst ?_
    repeat (first | (refine wpSeq_pure (v := ?_) rfl ?_ ?_; rotate_left 1; (focus (intro wq_ hSq_; (try dsimp only at hSq_); go_simp; (try with_reducible rfl); done)); (try simp only [Act.put, List.setIfInBounds_toArray, List.set_cons_zero, List.set_cons_succ])) | (refine wpSeq_pureG (v := ?_) rfl rfl ?_ ?_; rotate_left 1; (focus (intro wq_ hSq_; (try dsimp only at hSq_); go_simp; (try with_reducible rfl); done)); (try simp only [Act.put, List.setIfInBounds_toArray, List.set_cons_zero, List.set_cons_succ])) | (refine wpSeq_off rfl rfl ?_; (try simp only [Act.put, List.setIfInBounds_toArray, List.set_cons_zero, List.set_cons_succ])) | (refine wpSeq_offU rfl ?_; (try simp only [Act.put, List.setIfInBounds_toArray, List.set_cons_zero, List.set_cons_succ])))
    intro w8 g8 s8
    (try simp only [endJ, List.drop_succ_cons, List.drop_zero])
    have HS8 := Lib.hid (HS7.out.ext s8)
    have HR8 := Lib.hid (HR7.out.ext s8)
    have X8 := Lib.hid (bt X7.out s8)
    have Q8 := Lib.hid (Q7.out.below s8)
    clear hst g8 s8 kq HS7 HR7 X7 Q7
    go_wp2_with fail
    refine (st_get_u HS8.out (by omega) qf _ (by rw [ByteArray.size_extract]; omega)).mono ?_
    rintro e w9 ⟨v9, rfl, _, b9⟩
    have HS9 := Lib.hid (HS8.out.ext b9)
    have HR9 := Lib.hid (HR8.out.ext b9)
    have X9 := Lib.hid (bt X8.out b9)
    have Q9 := Lib.hid (Q8.out.below b9)
    clear b9 HS8 HR8 X8 Q8
    have kq := fun w' (hh : Ext w9 w') => (Q9.out.below hh).cells
    simp only [cellsAre, Nat.zero_add, Nat.reduceAdd, and_true] at kq
    have hst : Ext w9 w9.drew := Ext.drew _
    go_upto_region 9 with fail
    refine wp_region_adv 19 [] [(0, true, some 51, none), (1, true, some 52, none), (2, true, some 53, none), (3, true, some 54, none), (4, true, some 55, none), (5, true, some 56, none), (6, true, some 57, none), (7, true, some 58, none), (8, true, some 59, none), (9, true, some 60, none), (10, true, some 61, none), (11, true, some 62, none), (12, true, some 63, none), (13, true, some 64, none), (14, true, some 65, none), (15, true, some 66, none), (16, true, some 67, none), (17, true, some 68, none), (18, true, some 69, none)] (by kernel_rfl) (by kernel_rfl) (by kernel_rfl) (by intro it hit; (repeat (rcases List.mem_cons.1 hit with rfl | hit; (focus (intro o ho ev w; injection ho with ho; subst ho; kernel_rfl)))); cases hit) (fun _ _ _ _ _ => ⟨fun h => h, fun h => h⟩) hst ?_
    repeat (first | (refine wpSeq_pure (v := ?_) rfl ?_ ?_; rotate_left 1; (focus (intro wq_ hSq_; (try dsimp only at hSq_); go_simp; (try with_reducible rfl); done)); (try simp only [Act.put, List.setIfInBounds_toArray, List.set_cons_zero, List.set_cons_succ])) | (refine wpSeq_pureG (v := ?_) rfl rfl ?_ ?_; rotate_left 1; (focus (intro wq_ hSq_; (try dsimp only at hSq_); go_simp; (try with_reducible rfl); done)); (try simp only [Act.put, List.setIfInBounds_toArray, List.set_cons_zero, List.set_cons_succ])) | (refine wpSeq_off rfl rfl ?_; (try simp only [Act.put, List.setIfInBounds_toArray, List.set_cons_zero, List.set_cons_succ])) | (refine wpSeq_offU rfl ?_; (try simp only [Act.put, List.setIfInBounds_toArray, List.set_cons_zero, List.set_cons_succ])))
    intro wa ga sa
    (try simp only [endJ, List.drop_succ_cons, List.drop_zero])
    have HSa := Lib.hid (HS9.out.ext sa)
    have HRa := Lib.hid (HR9.out.ext sa)
    have Xa := Lib.hid (bt X9.out sa)
    have Qa := Lib.hid (Q9.out.below sa)
    clear hst ga sa kq HS9 HR9 X9 Q9
    go_wp2_with fail
    refine (st_range_u HSa.out (by omega) (fun x hx => by have := HL2.out x hx; omega) qf _ _ qm hqm (by rw [ByteArray.size_extract]; omega)).mono ?_
    rintro e wb ⟨vb, rfl, _, bb⟩
    have HSb := Lib.hid (HSa.out.ext bb)
    have HRb := Lib.hid (HRa.out.ext bb)
    have Xb := Lib.hid (bt Xa.out bb)
    have Qb := Lib.hid (Qa.out.below bb)
    have kb := Qb.out.cells
    simp only [cellsAre, Nat.zero_add, Nat.reduceAdd, and_true] at kb
    clear bb HSa HRa Xa Qa
    go_wp2_with fail
    refine (st_diff_u HSb.out (by omega) (fun x hx => by have := HL2.out x hx; omega) qf qt).mono ?_
    rintro e wc ⟨vc, rfl, _, bc_⟩
    have HSc := Lib.hid (HSb.out.ext bc_)
    have HRc := Lib.hid (HRb.out.ext bc_)
    have Xc := Lib.hid (bt Xb.out bc_)
    have Qc := Lib.hid (Qb.out.below bc_)
    have kc := Qc.out.cells
    simp only [cellsAre, Nat.zero_add, Nat.reduceAdd, and_true] at kc
    clear bc_ HSb HRb Xb Qb kb
    go_wp2_with fail
    refine (st_all_u HSc.out (by omega) qt).mono ?_
    rintro e wd ⟨vd, rfl, _, bd⟩
    have HSd := Lib.hid (HSc.out.ext bd)
    have HRd := Lib.hid (HRc.out.ext bd)
    have Xd := Lib.hid (bt Xc.out bd)
    have Qd := Lib.hid (Qc.out.below bd)
    clear bd HSc HRc Xc Qc kc
    have kq := fun w' (hh : Ext wd w') => (Qd.out.below hh).cells
    simp only [cellsAre, Nat.zero_add, Nat.reduceAdd, and_true] at kq
    have hst : Ext wd wd.drew := Ext.drew _
    go_upto_region 12 with fail
    refine wp_region_adv 10 [] [(0, true, some 82, none), (2, true, some 84, none), (3, true, some 85, none), (4, true, some 86, none), (1, false, some 83, none), (5, false, some 87, none), (6, true, some 81, none), (7, true, some 88, none), (8, true, some 89, none), (9, false, some 13, none)] (by kernel_rfl) (by kernel_rfl) (by kernel_rfl) (by intro it hit; (repeat (rcases List.mem_cons.1 hit with rfl | hit; (focus (intro o ho ev w; injection ho with ho; subst ho; kernel_rfl)))); cases hit) (fun _ _ _ _ _ => ⟨fun h => h, fun h => h⟩) hst ?_
    repeat (first | (refine wpSeq_pure (v := ?_) rfl ?_ ?_; rotate_left 1; (focus (intro wq_ hSq_; (try dsimp only at hSq_); go_simp; (try with_reducible rfl); done)); (try simp only [Act.put, List.setIfInBounds_toArray, List.set_cons_zero, List.set_cons_succ])) | (refine wpSeq_pureG (v := ?_) rfl rfl ?_ ?_; rotate_left 1; (focus (intro wq_ hSq_; (try dsimp only at hSq_); go_simp; (try with_reducible rfl); done)); (try simp only [Act.put, List.setIfInBounds_toArray, List.set_cons_zero, List.set_cons_succ])) | (refine wpSeq_off rfl rfl ?_; (try simp only [Act.put, List.setIfInBounds_toArray, List.set_cons_zero, List.set_cons_succ])) | (refine wpSeq_offU rfl ?_; (try simp only [Act.put, List.setIfInBounds_toArray, List.set_cons_zero, List.set_cons_succ])))
    first | refine wpSeq_call rfl (fun u1 g1 s1 K hK => ?_) | refine wpSeq_callG rfl rfl (fun u1 g1 s1 K hK => ?_)
    go_simp
    refine (dks_clone (HSd.out.ext s1).disk (by omega) fun b hb => Nat.le_trans (bt Xd.out s1).size hb).mono ?_
    rintro e y1 ⟨z1, rfl, ⟨d2, rfl, hdb⟩, b1⟩
    (try go_wp2_with fail)
    refine hK.out _ _ b1 ?_
    clear hK K
    (try simp only [Act.put, List.setIfInBounds_toArray, List.set_cons_zero, List.set_cons_succ])
    repeat (first | (refine wpSeq_pure (v := ?_) rfl ?_ ?_; rotate_left 1; (focus (intro wq_ hSq_; (try dsimp only at hSq_); go_simp; (try with_reducible rfl); done)); (try simp only [Act.put, List.setIfInBounds_toArray, List.set_cons_zero, List.set_cons_succ])) | (refine wpSeq_pureG (v := ?_) rfl rfl ?_ ?_; rotate_left 1; (focus (intro wq_ hSq_; (try dsimp only at hSq_); go_simp; (try with_reducible rfl); done)); (try simp only [Act.put, List.setIfInBounds_toArray, List.set_cons_zero, List.set_cons_succ])) | (refine wpSeq_off rfl rfl ?_; (try simp only [Act.put, List.setIfInBounds_toArray, List.set_cons_zero, List.set_cons_succ])) | (refine wpSeq_offU rfl ?_; (try simp only [Act.put, List.setIfInBounds_toArray, List.set_cons_zero, List.set_cons_succ])))
    first | refine wpSeq_call rfl (fun u2 g2 s2 K hK => ?_) | refine wpSeq_callG rfl rfl (fun u2 g2 s2 K hK => ?_)
    go_simp
    refine (dks_open (hdb.ext g2) (fun b hb => Nat.le_trans (bt Xd.out s2).size hb) (by omega) (by omega) (fun x hx => by have := HL2.out x hx; omega) kt (by omega)).mono ?_
    rintro e y2 ⟨z2, rfl, ⟨s2_, rfl, hsc⟩, b2⟩
    (try go_wp2_with fail)
    refine hK.out _ _ b2 ?_
    clear hK K
    (try simp only [Act.put, List.setIfInBounds_toArray, List.set_cons_zero, List.set_cons_succ])
    repeat (first | (refine wpSeq_pure (v := ?_) rfl ?_ ?_; rotate_left 1; (focus (intro wq_ hSq_; (try dsimp only at hSq_); go_simp; (try with_reducible rfl); done)); (try simp only [Act.put, List.setIfInBounds_toArray, List.set_cons_zero, List.set_cons_succ])) | (refine wpSeq_pureG (v := ?_) rfl rfl ?_ ?_; rotate_left 1; (focus (intro wq_ hSq_; (try dsimp only at hSq_); go_simp; (try with_reducible rfl); done)); (try simp only [Act.put, List.setIfInBounds_toArray, List.set_cons_zero, List.set_cons_succ])) | (refine wpSeq_off rfl rfl ?_; (try simp only [Act.put, List.setIfInBounds_toArray, List.set_cons_zero, List.set_cons_succ])) | (refine wpSeq_offU rfl ?_; (try simp only [Act.put, List.setIfInBounds_toArray, List.set_cons_zero, List.set_cons_succ])))
    first | refine wpSeq_call rfl (fun u3 g3 s3 K hK => ?_) | refine wpSeq_callG rfl rfl (fun u3 g3 s3 K hK => ?_)
    go_simp
    (try go_wp2_with fail)
    refine hK.out _ _ (Ext.refl _) ?_
    clear hK K
    (try simp only [Act.put, List.setIfInBounds_toArray, List.set_cons_zero, List.set_cons_succ])
    repeat (first | (refine wpSeq_pure (v := ?_) rfl ?_ ?_; rotate_left 1; (focus (intro wq_ hSq_; (try dsimp only at hSq_); go_simp; (try with_reducible rfl); done)); (try simp only [Act.put, List.setIfInBounds_toArray, List.set_cons_zero, List.set_cons_succ])) | (refine wpSeq_pureG (v := ?_) rfl rfl ?_ ?_; rotate_left 1; (focus (intro wq_ hSq_; (try dsimp only at hSq_); go_simp; (try with_reducible rfl); done)); (try simp only [Act.put, List.setIfInBounds_toArray, List.set_cons_zero, List.set_cons_succ])) | (refine wpSeq_off rfl rfl ?_; (try simp only [Act.put, List.setIfInBounds_toArray, List.set_cons_zero, List.set_cons_succ])) | (refine wpSeq_offU rfl ?_; (try simp only [Act.put, List.setIfInBounds_toArray, List.set_cons_zero, List.set_cons_succ])))
    intro we ge se
    (try simp only [endJ, List.drop_succ_cons, List.drop_zero])
    have HCe := Lib.hid (hsc.ext (bt g3 ge))
    have HSe := Lib.hid (HSd.out.ext se)
    have HRe := Lib.hid (HRd.out.ext se)
    have Xe := Lib.hid (bt Xd.out se)
    clear hst kq g1 s1 b1 g2 s2 b2 g3 s3 ge se hdb hsc HSd HRd Xd Qd
    go_wp2_with fail
    refine (stl_broken HSe.out).mono ?_
    rintro e wf ⟨vf, rfl, rfl, bf⟩
    have HCf := Lib.hid (HCe.out.ext bf)
    have HSf := Lib.hid (HSe.out.ext bf)
    have HRf := Lib.hid (HRe.out.ext bf)
    have Xf := Lib.hid (bt Xe.out bf)
    clear bf HCe HSe HRe Xe
    obtain ⟨Af, mf, cf, hrf, hkf⟩ := HRf.out
    have kf := hkf.cells
    simp only [cellsAre, Nat.zero_add, Nat.reduceAdd, and_true] at kf
    have HVf := Lib.hid hrf
    have HKf := Lib.hid hkf
    clear hrf hkf HRf
    go_wp2_with fail
    refine (stl_alike HSf.out HVf.out (by omega) (by omega) (fun x hx => by have := HL2.out x hx; omega)).mono ?_
    rintro e wg ⟨vg, rfl, rfl, bg⟩
    have HCg := Lib.hid (HCf.out.ext bg)
    have HSg := Lib.hid (HSf.out.ext bg)
    have HVg := Lib.hid (HVf.out.ext bg)
    have Xg := Lib.hid (bt Xf.out bg)
    have kg := (HKf.out.below bg).cells
    simp only [cellsAre, Nat.zero_add, Nat.reduceAdd, and_true] at kg
    clear bg HCf HSf HVf Xf kf HKf
    go_wp2_with fail
    refine (stl_alike HCg.out HVg.out (by omega) (by omega) (fun x hx => by have := HL2.out x hx; omega)).mono ?_
    rintro e wh ⟨vh, rfl, rfl, bh⟩
    have HSh := Lib.hid (HSg.out.ext bh)
    have Xh := Lib.hid (bt Xg.out bh)
    clear bh HCg HSg HVg Xg kg
    go_wp2_with fail
    refine (st_loose HSh.out).mono ?_
    rintro e wi ⟨vi, rfl, rfl, bi⟩
    have Xi := Lib.hid (bt Xh.out bi)
    clear bi HSh Xh
    go_wp2_with fail
    (try simp only [Exit.inBlock, Exit.then])
    refine bodyPost_ret (v := (.bool true)) (by simp [results, Tryz.results10, go_sem, *]) rfl ?_
    exact ⟨_, rfl, rfl, Xi.out⟩
  | true =>
    have hpos : 0 < l.length := by
      rcases Nat.eq_zero_or_pos l.length with h | h
      · rw [List.eq_nil_of_length_eq_zero h] at hbat
        simp [batB] at hbat
      · exact h
    obtain ⟨x, tl, rfl⟩ : ∃ x tl, l = x :: tl := by
      cases l with
      | nil => simp at hpos
      | cons x tl => exact ⟨x, tl, rfl⟩
    obtain ⟨xk, xv, xg⟩ := x
    obtain ⟨g, o, cap, cs, rfl, e1, hg, hbk, hcp1, hcp2⟩ := own_at OL5.out hpos
    injection e1 with e1 e2 e3
    subst e1 e3
    have k1 : w5.cell? ⟨g, 0, none⟩ = some (.string xk) := by
      rw [OL5.out.cellAt 0 (by simp only [List.length_cons]; omega)]; rfl
    have f1 : w5.frozen? ⟨g, 0, none⟩ = false := OL5.out.frozenAt 0
    have hos := own_set OL5.out hpos 0 (.string ⟨#[]⟩)
    have hos2 : Rv (w5.setCell ⟨g, 0, none⟩ (.string ⟨#[]⟩)) 3 (some ⟨g, 0, none⟩) (⟨xk, xv, xg⟩ :: tl : List Cg).length cl (ccs (⟨⟨#[]⟩, xv, xg⟩ :: tl)) := own_rvv hos
    have HBT := Lib.hid (show batB (⟨⟨#[]⟩, xv, xg⟩ :: tl) = false by
      unfold batB chgB
      rw [List.all_cons]
      have : keyB ⟨#[]⟩ = false := by decide
      simp [this])
    have HB := Lib.hid (B5.out.setCell (p := ⟨g, 0, none⟩) hg (.string ⟨#[]⟩))
    have HRL := Lib.hid hos2
    have HCU := Lib.hid (show ∀ x ∈ (⟨⟨#[]⟩, xv, xg⟩ :: tl : List Cg), x.k.size ≤ 1000000000 ∧ x.v.size ≤ 1000000000 from fun x hx => by
      rcases List.mem_cons.1 hx with rfl | hx
      · have := CU.out _ List.mem_cons_self
        exact ⟨by show (⟨#[]⟩ : Str).size ≤ 1000000000; decide, by dsimp only at this ⊢; omega⟩
      · have := CU.out x (List.mem_cons_of_mem _ hx); omega)
    obtain ⟨lx, hlx⟩ : ∃ lx : List Cg, (⟨⟨#[]⟩, xv, xg⟩ :: tl) = lx := ⟨_, rfl⟩
    rw [hlx] at HBT HRL HCU
    obtain ⟨nl, hnl⟩ : ∃ nl, (⟨xk, xv, xg⟩ :: tl : List Cg).length = nl := ⟨_, rfl⟩
    have hll2 : nl ≤ 17 := by omega
    have hnl0 : 0 < nl := by omega
    have pnl : (0 : Int) < (nl : Int) := by omega
    rw [hnl] at HRL ⊢
    obtain ⟨l, hl0⟩ : ∃ l : List Cg, lx = l := ⟨_, rfl⟩
    rw [hl0] at HBT HRL HCU
    clear hll hpos hbat hbk hcp1 hcp2 hos hos2 hg B5 RL5 OL5 CU hlx hnl hl0
    have hll := hll2
    go_upto_region 7 with fail
    clear k1 f1 hnl0 pnl hll2
    obtain ⟨wq, hwq⟩ : ∃ wq, w5.setCell ⟨g, 0, none⟩ (.string ⟨#[]⟩) = wq := ⟨_, rfl⟩
    rw [hwq] at HB HRL ⊢
    clear hwq
    have HS6 := Lib.hid (HS3.out.ext HB.out)
    have HR6 := Lib.hid (HR3.out.ext HB.out)
    have X6 := Lib.hid (bt X3.out HB.out)
    have Q6 := Lib.hid (Q3.out.below HB.out)
    clear HS3 HR3 X3 Q3 HB
    go_wp2_with fail
    refine (st_commit_bad HS6.out _ nl cl l HRL.out (by omega) HCU.out HBT.out).mono ?_
    rintro e w7 ⟨rfl, b7⟩
    unfold ansV
    have HS7 := Lib.hid (HS6.out.ext b7)
    have HR7 := Lib.hid (HR6.out.ext b7)
    have X7 := Lib.hid (bt X6.out b7)
    have Q7 := Lib.hid (Q6.out.below b7)
    clear b7 HS6 HR6 X6 Q6 HRL HCU HBT
    have kq := fun w' (hh : Ext w7 w') => (Q7.out.below hh).cells
    simp only [cellsAre, Nat.zero_add, Nat.reduceAdd, and_true] at kq
    have hst : Ext w7 w7.drew := Ext.drew _
    go_upto_region 8 with fail
    refine wp_region_adv 10 [] [(0, true, some 40, none), (1, true, some 41, none), (2, true, some 42, none), (3, true, some 43, none), (4, true, some 44, none), (5, true, some 45, none), (6, true, some 46, none), (7, true, some 47, none), (8, true, some 48, none), (9, true, some 49, none)] (by kernel_rfl) (by kernel_rfl) (by kernel_rfl) (by intro it hit; (repeat (rcases List.mem_cons.1 hit with rfl | hit; (focus (intro o ho ev w; injection ho with ho; subst ho; kernel_rfl)))); cases hit) (fun _ _ _ _ _ => ⟨fun h => h, fun h => h⟩) hst ?_
    repeat (first | (refine wpSeq_pure (v := ?_) rfl ?_ ?_; rotate_left 1; (focus (intro wq_ hSq_; (try dsimp only at hSq_); go_simp; (try with_reducible rfl); done)); (try simp only [Act.put, List.setIfInBounds_toArray, List.set_cons_zero, List.set_cons_succ])) | (refine wpSeq_pureG (v := ?_) rfl rfl ?_ ?_; rotate_left 1; (focus (intro wq_ hSq_; (try dsimp only at hSq_); go_simp; (try with_reducible rfl); done)); (try simp only [Act.put, List.setIfInBounds_toArray, List.set_cons_zero, List.set_cons_succ])) | (refine wpSeq_off rfl rfl ?_; (try simp only [Act.put, List.setIfInBounds_toArray, List.set_cons_zero, List.set_cons_succ])) | (refine wpSeq_offU rfl ?_; (try simp only [Act.put, List.setIfInBounds_toArray, List.set_cons_zero, List.set_cons_succ])))
    intro w8 g8 s8
    (try simp only [endJ, List.drop_succ_cons, List.drop_zero])
    have HS8 := Lib.hid (HS7.out.ext s8)
    have HR8 := Lib.hid (HR7.out.ext s8)
    have X8 := Lib.hid (bt X7.out s8)
    have Q8 := Lib.hid (Q7.out.below s8)
    clear hst g8 s8 kq HS7 HR7 X7 Q7
    go_wp2_with fail
    refine (st_get_u HS8.out (by omega) qf _ (by rw [ByteArray.size_extract]; omega)).mono ?_
    rintro e w9 ⟨v9, rfl, _, b9⟩
    have HS9 := Lib.hid (HS8.out.ext b9)
    have HR9 := Lib.hid (HR8.out.ext b9)
    have X9 := Lib.hid (bt X8.out b9)
    have Q9 := Lib.hid (Q8.out.below b9)
    clear b9 HS8 HR8 X8 Q8
    have kq := fun w' (hh : Ext w9 w') => (Q9.out.below hh).cells
    simp only [cellsAre, Nat.zero_add, Nat.reduceAdd, and_true] at kq
    have hst : Ext w9 w9.drew := Ext.drew _
    go_upto_region 9 with fail
    refine wp_region_adv 19 [] [(0, true, some 51, none), (1, true, some 52, none), (2, true, some 53, none), (3, true, some 54, none), (4, true, some 55, none), (5, true, some 56, none), (6, true, some 57, none), (7, true, some 58, none), (8, true, some 59, none), (9, true, some 60, none), (10, true, some 61, none), (11, true, some 62, none), (12, true, some 63, none), (13, true, some 64, none), (14, true, some 65, none), (15, true, some 66, none), (16, true, some 67, none), (17, true, some 68, none), (18, true, some 69, none)] (by kernel_rfl) (by kernel_rfl) (by kernel_rfl) (by intro it hit; (repeat (rcases List.mem_cons.1 hit with rfl | hit; (focus (intro o ho ev w; injection ho with ho; subst ho; kernel_rfl)))); cases hit) (fun _ _ _ _ _ => ⟨fun h => h, fun h => h⟩) hst ?_
    repeat (first | (refine wpSeq_pure (v := ?_) rfl ?_ ?_; rotate_left 1; (focus (intro wq_ hSq_; (try dsimp only at hSq_); go_simp; (try with_reducible rfl); done)); (try simp only [Act.put, List.setIfInBounds_toArray, List.set_cons_zero, List.set_cons_succ])) | (refine wpSeq_pureG (v := ?_) rfl rfl ?_ ?_; rotate_left 1; (focus (intro wq_ hSq_; (try dsimp only at hSq_); go_simp; (try with_reducible rfl); done)); (try simp only [Act.put, List.setIfInBounds_toArray, List.set_cons_zero, List.set_cons_succ])) | (refine wpSeq_off rfl rfl ?_; (try simp only [Act.put, List.setIfInBounds_toArray, List.set_cons_zero, List.set_cons_succ])) | (refine wpSeq_offU rfl ?_; (try simp only [Act.put, List.setIfInBounds_toArray, List.set_cons_zero, List.set_cons_succ])))
    intro wa ga sa
    (try simp only [endJ, List.drop_succ_cons, List.drop_zero])
    have HSa := Lib.hid (HS9.out.ext sa)
    have HRa := Lib.hid (HR9.out.ext sa)
    have Xa := Lib.hid (bt X9.out sa)
    have Qa := Lib.hid (Q9.out.below sa)
    clear hst ga sa kq HS9 HR9 X9 Q9
    go_wp2_with fail
    refine (st_range_u HSa.out (by omega) (fun x hx => by have := HL2.out x hx; omega) qf _ _ qm hqm (by rw [ByteArray.size_extract]; omega)).mono ?_
    rintro e wb ⟨vb, rfl, _, bb⟩
    have HSb := Lib.hid (HSa.out.ext bb)
    have HRb := Lib.hid (HRa.out.ext bb)
    have Xb := Lib.hid (bt Xa.out bb)
    have Qb := Lib.hid (Qa.out.below bb)
    have kb := Qb.out.cells
    simp only [cellsAre, Nat.zero_add, Nat.reduceAdd, and_true] at kb
    clear bb HSa HRa Xa Qa
    go_wp2_with fail
    refine (st_diff_u HSb.out (by omega) (fun x hx => by have := HL2.out x hx; omega) qf qt).mono ?_
    rintro e wc ⟨vc, rfl, _, bc_⟩
    have HSc := Lib.hid (HSb.out.ext bc_)
    have HRc := Lib.hid (HRb.out.ext bc_)
    have Xc := Lib.hid (bt Xb.out bc_)
    have Qc := Lib.hid (Qb.out.below bc_)
    have kc := Qc.out.cells
    simp only [cellsAre, Nat.zero_add, Nat.reduceAdd, and_true] at kc
    clear bc_ HSb HRb Xb Qb kb
    go_wp2_with fail
    refine (st_all_u HSc.out (by omega) qt).mono ?_
    rintro e wd ⟨vd, rfl, _, bd⟩
    have HSd := Lib.hid (HSc.out.ext bd)
    have HRd := Lib.hid (HRc.out.ext bd)
    have Xd := Lib.hid (bt Xc.out bd)
    have Qd := Lib.hid (Qc.out.below bd)
    clear bd HSc HRc Xc Qc kc
    have kq := fun w' (hh : Ext wd w') => (Qd.out.below hh).cells
    simp only [cellsAre, Nat.zero_add, Nat.reduceAdd, and_true] at kq
    have hst : Ext wd wd.drew := Ext.drew _
    go_upto_region 12 with fail
    refine wp_region_adv 10 [] [(0, true, some 82, none), (2, true, some 84, none), (3, true, some 85, none), (4, true, some 86, none), (1, false, some 83, none), (5, false, some 87, none), (6, true, some 81, none), (7, true, some 88, none), (8, true, some 89, none), (9, false, some 13, none)] (by kernel_rfl) (by kernel_rfl) (by kernel_rfl) (by intro it hit; (repeat (rcases List.mem_cons.1 hit with rfl | hit; (focus (intro o ho ev w; injection ho with ho; subst ho; kernel_rfl)))); cases hit) (fun _ _ _ _ _ => ⟨fun h => h, fun h => h⟩) hst ?_
    repeat (first | (refine wpSeq_pure (v := ?_) rfl ?_ ?_; rotate_left 1; (focus (intro wq_ hSq_; (try dsimp only at hSq_); go_simp; (try with_reducible rfl); done)); (try simp only [Act.put, List.setIfInBounds_toArray, List.set_cons_zero, List.set_cons_succ])) | (refine wpSeq_pureG (v := ?_) rfl rfl ?_ ?_; rotate_left 1; (focus (intro wq_ hSq_; (try dsimp only at hSq_); go_simp; (try with_reducible rfl); done)); (try simp only [Act.put, List.setIfInBounds_toArray, List.set_cons_zero, List.set_cons_succ])) | (refine wpSeq_off rfl rfl ?_; (try simp only [Act.put, List.setIfInBounds_toArray, List.set_cons_zero, List.set_cons_succ])) | (refine wpSeq_offU rfl ?_; (try simp only [Act.put, List.setIfInBounds_toArray, List.set_cons_zero, List.set_cons_succ])))
    first | refine wpSeq_call rfl (fun u1 g1 s1 K hK => ?_) | refine wpSeq_callG rfl rfl (fun u1 g1 s1 K hK => ?_)
    go_simp
    refine (dks_clone (HSd.out.ext s1).disk (by omega) fun b hb => Nat.le_trans (bt Xd.out s1).size hb).mono ?_
    rintro e y1 ⟨z1, rfl, ⟨d2, rfl, hdb⟩, b1⟩
    (try go_wp2_with fail)
    refine hK.out _ _ b1 ?_
    clear hK K
    (try simp only [Act.put, List.setIfInBounds_toArray, List.set_cons_zero, List.set_cons_succ])
    repeat (first | (refine wpSeq_pure (v := ?_) rfl ?_ ?_; rotate_left 1; (focus (intro wq_ hSq_; (try dsimp only at hSq_); go_simp; (try with_reducible rfl); done)); (try simp only [Act.put, List.setIfInBounds_toArray, List.set_cons_zero, List.set_cons_succ])) | (refine wpSeq_pureG (v := ?_) rfl rfl ?_ ?_; rotate_left 1; (focus (intro wq_ hSq_; (try dsimp only at hSq_); go_simp; (try with_reducible rfl); done)); (try simp only [Act.put, List.setIfInBounds_toArray, List.set_cons_zero, List.set_cons_succ])) | (refine wpSeq_off rfl rfl ?_; (try simp only [Act.put, List.setIfInBounds_toArray, List.set_cons_zero, List.set_cons_succ])) | (refine wpSeq_offU rfl ?_; (try simp only [Act.put, List.setIfInBounds_toArray, List.set_cons_zero, List.set_cons_succ])))
    first | refine wpSeq_call rfl (fun u2 g2 s2 K hK => ?_) | refine wpSeq_callG rfl rfl (fun u2 g2 s2 K hK => ?_)
    go_simp
    refine (dks_open (hdb.ext g2) (fun b hb => Nat.le_trans (bt Xd.out s2).size hb) (by omega) (by omega) (fun x hx => by have := HL2.out x hx; omega) kt (by omega)).mono ?_
    rintro e y2 ⟨z2, rfl, ⟨s2_, rfl, hsc⟩, b2⟩
    (try go_wp2_with fail)
    refine hK.out _ _ b2 ?_
    clear hK K
    (try simp only [Act.put, List.setIfInBounds_toArray, List.set_cons_zero, List.set_cons_succ])
    repeat (first | (refine wpSeq_pure (v := ?_) rfl ?_ ?_; rotate_left 1; (focus (intro wq_ hSq_; (try dsimp only at hSq_); go_simp; (try with_reducible rfl); done)); (try simp only [Act.put, List.setIfInBounds_toArray, List.set_cons_zero, List.set_cons_succ])) | (refine wpSeq_pureG (v := ?_) rfl rfl ?_ ?_; rotate_left 1; (focus (intro wq_ hSq_; (try dsimp only at hSq_); go_simp; (try with_reducible rfl); done)); (try simp only [Act.put, List.setIfInBounds_toArray, List.set_cons_zero, List.set_cons_succ])) | (refine wpSeq_off rfl rfl ?_; (try simp only [Act.put, List.setIfInBounds_toArray, List.set_cons_zero, List.set_cons_succ])) | (refine wpSeq_offU rfl ?_; (try simp only [Act.put, List.setIfInBounds_toArray, List.set_cons_zero, List.set_cons_succ])))
    first | refine wpSeq_call rfl (fun u3 g3 s3 K hK => ?_) | refine wpSeq_callG rfl rfl (fun u3 g3 s3 K hK => ?_)
    go_simp
    (try go_wp2_with fail)
    refine hK.out _ _ (Ext.refl _) ?_
    clear hK K
    (try simp only [Act.put, List.setIfInBounds_toArray, List.set_cons_zero, List.set_cons_succ])
    repeat (first | (refine wpSeq_pure (v := ?_) rfl ?_ ?_; rotate_left 1; (focus (intro wq_ hSq_; (try dsimp only at hSq_); go_simp; (try with_reducible rfl); done)); (try simp only [Act.put, List.setIfInBounds_toArray, List.set_cons_zero, List.set_cons_succ])) | (refine wpSeq_pureG (v := ?_) rfl rfl ?_ ?_; rotate_left 1; (focus (intro wq_ hSq_; (try dsimp only at hSq_); go_simp; (try with_reducible rfl); done)); (try simp only [Act.put, List.setIfInBounds_toArray, List.set_cons_zero, List.set_cons_succ])) | (refine wpSeq_off rfl rfl ?_; (try simp only [Act.put, List.setIfInBounds_toArray, List.set_cons_zero, List.set_cons_succ])) | (refine wpSeq_offU rfl ?_; (try simp only [Act.put, List.setIfInBounds_toArray, List.set_cons_zero, List.set_cons_succ])))
    intro we ge se
    (try simp only [endJ, List.drop_succ_cons, List.drop_zero])
    have HCe := Lib.hid (hsc.ext (bt g3 ge))
    have HSe := Lib.hid (HSd.out.ext se)
    have HRe := Lib.hid (HRd.out.ext se)
    have Xe := Lib.hid (bt Xd.out se)
    clear hst kq g1 s1 b1 g2 s2 b2 g3 s3 ge se hdb hsc HSd HRd Xd Qd
    go_wp2_with fail
    refine (stl_broken HSe.out).mono ?_
    rintro e wf ⟨vf, rfl, rfl, bf⟩
    have HCf := Lib.hid (HCe.out.ext bf)
    have HSf := Lib.hid (HSe.out.ext bf)
    have HRf := Lib.hid (HRe.out.ext bf)
    have Xf := Lib.hid (bt Xe.out bf)
    clear bf HCe HSe HRe Xe
    obtain ⟨Af, mf, cf, hrf, hkf⟩ := HRf.out
    have kf := hkf.cells
    simp only [cellsAre, Nat.zero_add, Nat.reduceAdd, and_true] at kf
    have HVf := Lib.hid hrf
    have HKf := Lib.hid hkf
    clear hrf hkf HRf
    go_wp2_with fail
    refine (stl_alike HSf.out HVf.out (by omega) (by omega) (fun x hx => by have := HL2.out x hx; omega)).mono ?_
    rintro e wg ⟨vg, rfl, rfl, bg⟩
    have HCg := Lib.hid (HCf.out.ext bg)
    have HSg := Lib.hid (HSf.out.ext bg)
    have HVg := Lib.hid (HVf.out.ext bg)
    have Xg := Lib.hid (bt Xf.out bg)
    have kg := (HKf.out.below bg).cells
    simp only [cellsAre, Nat.zero_add, Nat.reduceAdd, and_true] at kg
    clear bg HCf HSf HVf Xf kf HKf
    go_wp2_with fail
    refine (stl_alike HCg.out HVg.out (by omega) (by omega) (fun x hx => by have := HL2.out x hx; omega)).mono ?_
    rintro e wh ⟨vh, rfl, rfl, bh⟩
    have HSh := Lib.hid (HSg.out.ext bh)
    have Xh := Lib.hid (bt Xg.out bh)
    clear bh HCg HSg HVg Xg kg
    go_wp2_with fail
    refine (st_loose HSh.out).mono ?_
    rintro e wi ⟨vi, rfl, rfl, bi⟩
    have Xi := Lib.hid (bt Xh.out bi)
    clear bi HSh Xh
    go_wp2_with fail
    (try simp only [Exit.inBlock, Exit.then])
    refine bodyPost_ret (v := (.bool true)) (by simp [results, Tryz.results10, go_sem, *]) rfl ?_
    exact ⟨_, rfl, rfl, Xi.out⟩
end Go.Proofs.Tb
