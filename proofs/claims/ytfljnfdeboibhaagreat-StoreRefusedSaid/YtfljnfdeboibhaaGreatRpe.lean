/- Contracts of tree, Diff, Get, Range, All at whatever arguments. -/
import Derived.Test.YtfljnfdeboibhaaGreatRpd
import Derived.Test.YtfljnfdeboibhaaGreatTwe
set_option linter.unusedVariables false
set_option linter.unusedSimpArgs false
namespace Go.Proofs.Tb
open Go.Maps Go.RowKit Go.Lib Go.Shelf
attribute [local go_sem] cell_set_same neqMapL binOp_string_geq' Oper.semAt_some

theorem STl.srE {F : Nat → Prop} {w : World} {s d keep n left : Nat} {Vs : List (List Pr)} (h : STl F w s d keep n Vs left) : ∃ vs B, SR w s d keep vs B false ∧ VsR keep vs Vs := by
  obtain ⟨vs, B, bl, h1, h2, _⟩ := h
  exact ⟨vs, B, h1.sr, h2⟩
theorem STl.posE {F : Nat → Prop} {w : World} {s d keep n left : Nat} {Vs : List (List Pr)} (h : STl F w s d keep n Vs left) : 0 < Vs.length := by
  obtain ⟨vs, B, bl, _, h2, _⟩ := h
  exact List.length_pos_iff.2 h2.nv
/-- What tree answers at any number. -/
def TreP (vs : List (Nat × MT)) (N : Nat) (v : Int) (p : Option Addr) : Prop :=
  (verB N vs.length v ≠ 0 → p = none) ∧ (verB N vs.length v = 0 → ∃ i, ∃ hi : i < vs.length, v = ((N - i : Nat) : Int) ∧ p = (vs[i]).2.ad)
theorem rtree_any {w : World} {s d keep : Nat} {vs : List (Nat × MT)} {B : Nat → Nat} {br : Bool} (h : SR w s d keep vs B br) {N : Nat} (hN : VsN vs N) (hN2 : N ≤ 1000000000) (v er : Int) (hv : verB N vs.length v = er) :
    Calls Tryz.prog 76 #[.pointer (some ⟨s, 0, none⟩), .int .i64 v] w (Ret (fun z _ => ∃ p, z = ansT p er ∧ TreP vs N v p) w) := by
  by_cases he : er = 0
  · subst he
    have h0 : 0 ≤ v := by
      unfold verB at hv
      split at hv
      · cases hv
      · omega
    obtain ⟨n, rfl⟩ := Int.eq_ofNat_of_zero_le h0
    obtain ⟨h1, h2⟩ := verB_zero hv hN.pos
    refine (rtree_ok h hN hN2 h2 (v := (n : Int)) (by omega) rfl).mono ?_
    rintro e w' ⟨z, rfl, rfl, b⟩
    exact ⟨_, rfl, ⟨_, rfl, fun hne => absurd hv hne, fun _ => ⟨_, h2, by omega, rfl⟩⟩, b⟩
  · refine (rtree_no h hN hN2 v er hv he).mono ?_
    rintro e w' ⟨z, rfl, rfl, b⟩
    exact ⟨_, rfl, ⟨_, rfl, fun _ => rfl, fun h0 => absurd (hv.symm.trans h0) he⟩, b⟩
def difE (e f : Int) : Int := if e = 1 ∨ f = 1 then 1 else if e ≠ 0 ∨ f ≠ 0 then 10 else 0
set_option maxHeartbeats 3200000 in
set_option maxRecDepth 100000 in
theorem rdiff_err {w : World} {s d keep : Nat} {vs : List (Nat × MT)} {B : Nat → Nat} {br : Bool} (h : SR w s d keep vs B br) {N : Nat} (hN : VsN vs N) (hN2 : N ≤ 1000000000) (a b e f : Int) (he : verB N vs.length a = e) (hf : verB N vs.length b = f) (hne : e ≠ 0 ∨ f ≠ 0) :
    Calls Tryz.prog 35 #[.pointer (some ⟨s, 0, none⟩), .int .i64 a, .int .i64 b] w (Ret (fun z _ => z = ansR (.slice none 0 0) (difE e f)) w) := by
  have H := Lib.hid h
  have HC := Lib.hid (fun W (hW : Ext w W) => rtree_any (h.ext hW) hN hN2 a e he)
  have HD := Lib.hid (fun W (hW : Ext w W) => rtree_any (h.ext hW) hN hN2 b f hf)
  have ce : e = 0 ∨ e = 1 ∨ e = 10 := by rw [← he]; exact verB_cases _ _ _
  have cf : f = 0 ∨ f = 1 ∨ f = 10 := by rw [← hf]; exact verB_cases _ _ _
  clear h hN he hf
  go_enter Tryz.func35, Tryz.ntmps35
  go_wp2_with fail
  refine (HC.out _ (Ext.refl _)).mono ?_
  rintro e1 w1 ⟨v1, rfl, ⟨p1, rfl, hp1⟩, b1⟩
  unfold ansT
  have X1 := Lib.hid b1
  clear b1 hp1
  go_wp2_with fail
  refine (HD.out _ X1.out).mono ?_
  rintro e2 w2 ⟨v2, rfl, ⟨p2, rfl, hp2⟩, b2⟩
  unfold ansT
  have X2 := Lib.hid (bt X1.out b2)
  clear b2 hp2 HC HD H X1
  rcases ce with rfl | rfl | rfl <;> rcases cf with rfl | rfl | rfl
  · exact absurd hne (by simp)
  all_goals
    clear hne
    go_wp2
    go_returns
    exact ⟨_, rfl, rfl, X2.out⟩
set_option maxHeartbeats 3200000 in
set_option maxRecDepth 100000 in
theorem rdiff_ok {w : World} {s d keep : Nat} {vs : List (Nat × MT)} {B : Nat → Nat} {br : Bool} (h : SR w s d keep vs B br) {N : Nat} (hN : VsN vs N) (hN2 : N ≤ 1000000000) {i j : Nat} (hi : i < vs.length) (hj : j < vs.length) {a b : Int} (ha : a = ((N - i : Nat) : Int)) (hb : b = ((N - j : Nat) : Int)) {u t : MT} (hu : (vs[i]).2 = u) (ht : (vs[j]).2 = t)
    (su : Srtd u.er.prs) (st : Srtd t.er.prs) (nu : u.er.size ≤ 100000) (nt : t.er.size ≤ 100000) :
    Calls Tryz.prog 35 #[.pointer (some ⟨s, 0, none⟩), .int .i64 a, .int .i64 b] w (Ret (fun z w' => ∃ z' l, z = ansR z' 0 ∧ Dif u.er.prs t.er.prs l ∧ OwC w.heap.size w' z' l) w) := by
  have HU := Lib.hid (h.tr _ (List.getElem_mem hi))
  have HT := Lib.hid (h.tr _ (List.getElem_mem hj))
  rw [hu] at HU
  rw [ht] at HT
  have HC := Lib.hid (fun W (hW : Ext w W) => rtree_ok (h.ext (w' := W) hW) hN hN2 hi ha hu)
  have HD := Lib.hid (fun W (hW : Ext w W) => rtree_ok (h.ext (w' := W) hW) hN hN2 hj hb ht)
  have HCH := Lib.hid (fun W (hW : Ext w W) => rchanges_any (w := W) u t (HU.out.below hW) (HT.out.below hW) su st nu nt)
  clear h hN ha hb hu ht su st HU HT
  go_enter Tryz.func35, Tryz.ntmps35
  go_wp2_with fail
  refine (HC.out _ (Ext.refl _)).mono ?_
  rintro e1 w1 ⟨v1, rfl, rfl, b1⟩
  unfold ansT
  have X1 := Lib.hid (show Ext w w1 from b1)
  clear b1
  go_wp2_with fail
  refine (HD.out _ X1.out).mono ?_
  rintro e2 w2 ⟨v2, rfl, rfl, b2⟩
  unfold ansT
  have X2 := Lib.hid (bt X1.out b2)
  clear b2 HC HD X1
  go_wp2_with fail
  refine (HCH.out _ X2.out).mono ?_
  rintro e3 w3 ⟨v3, rfl, ⟨l, hl, ho⟩, b3⟩
  have X3 := Lib.hid (And.intro (bt X2.out b3) (And.intro hl (ho.lower (Ext.size X2.out))))
  clear b3 hl HCH
  obtain ⟨A3, c3, rfl, _⟩ := ho.rv
  clear ho
  go_wp2
  go_returns
  exact ⟨_, rfl, ⟨_, l, rfl, X3.out.2.1, X3.out.2.2⟩, X3.out.1⟩
set_option maxHeartbeats 3200000 in
set_option maxRecDepth 100000 in
/-- Get where the number or the key is not right. -/
theorem rget_bad {w : World} {s d keep : Nat} {vs : List (Nat × MT)} {B : Nat → Nat} {br : Bool} (h : SR w s d keep vs B br) {N : Nat} (hN : VsN vs N) (hN2 : N ≤ 1000000000) (v e : Int) (he : verB N vs.length v = e) (k : Str) (hks : k.size ≤ 1000000000) {kb : Bool} (hk : keyB k = kb) (hne : e ≠ 0 ∨ kb = false) :
    Calls Tryz.prog 37 #[.pointer (some ⟨s, 0, none⟩), .int .i64 v, .string k] w (Ret (fun z _ => z = ansG none (if e = 1 ∨ kb = false then 1 else 10)) w) := by
  have HC := Lib.hid (rtree_any h hN hN2 v e he)
  have ce : e = 0 ∨ e = 1 ∨ e = 10 := by rw [← he]; exact verB_cases _ _ _
  have HK := Lib.hid hk
  clear h hN he hk
  go_enter Tryz.func37, Tryz.ntmps37
  go_wp2_with fail
  refine HC.out.mono ?_
  rintro e1 w1 ⟨v1, rfl, ⟨p1, rfl, hp1⟩, b1⟩
  unfold ansT
  have X1 := Lib.hid (show Ext w w1 from b1)
  clear b1 hp1 HC
  rcases ce with rfl | rfl | rfl
  · cases kb with
    | true => exact absurd hne (by simp)
    | false =>
      clear hne
      go_wp2_with fail
      refine (rkey_any k hks w1).mono ?_
      rintro e2 w2 ⟨z2, rfl, rfl, b2⟩
      rw [HK.out]
      have X2 := Lib.hid (bt X1.out b2)
      clear b2
      go_wp2
      go_returns
      exact ⟨_, rfl, rfl, X2.out⟩
  · clear hne
    go_wp2
    go_returns
    exact ⟨_, rfl, rfl, X1.out⟩
  · clear hne
    go_wp2_with fail
    refine (rkey_any k hks w1).mono ?_
    rintro e2 w2 ⟨z2, rfl, rfl, b2⟩
    rw [HK.out]
    have X2 := Lib.hid (bt X1.out b2)
    clear b2 HK
    cases kb with
    | true =>
      go_wp2
      go_returns
      exact ⟨_, rfl, rfl, X2.out⟩
    | false =>
      go_wp2
      go_returns
      exact ⟨_, rfl, rfl, X2.out⟩
set_option maxHeartbeats 3200000 in
set_option maxRecDepth 100000 in
/-- Range at a number of pairs below 0. -/
theorem rrange_neg {w : World} {s d keep : Nat} {vs : List (Nat × MT)} {B : Nat → Nat} {br : Bool} (h : SR w s d keep vs B br) {N : Nat} (hN : VsN vs N) (hN2 : N ≤ 1000000000) (v e : Int) (he : verB N vs.length v = e) (low high : Str) (most : Int) (hm : most < 0) :
    Calls Tryz.prog 31 #[.pointer (some ⟨s, 0, none⟩), .int .i64 v, .string low, .string high, .int .i64 most] w (Ret (fun z _ => z = ansR (.slice none 0 0) 1) w) := by
  have HC := Lib.hid (fun W (hW : Ext w W) => rtree_any (h.ext hW) hN hN2 v e he)
  have ce : e = 0 ∨ e = 1 ∨ e = 10 := by rw [← he]; exact verB_cases _ _ _
  have hm1 : decide (most < 0) = true := decide_eq_true hm
  clear h hN he
  go_enter Tryz.func31, Tryz.ntmps31
  go_upto_region 1 with fail
  have x1 : Ext w ((w.alloc (.cells #[.string high] TST)).alloc (.cells #[.int .i64 most] TIN)) := bt (Ext.allocR _ _) (Ext.allocR _ _)
  refine wp_world (fun W => Blk W (w.heap.size + 1) TIN #[.int .i64 most] ∧ Ext w W) ⟨Blk.new_ _ _ (by simp), x1⟩ ?_
  clear x1
  rintro W1 ⟨hb1, hx1⟩
  have HB1 := Lib.hid hb1
  have X1 := Lib.hid hx1
  clear hb1 hx1
  go_wp2_with fail
  refine (HC.out _ X1.out).mono ?_
  rintro e1 w2 ⟨v1, rfl, ⟨p1, rfl, hp1⟩, b2⟩
  unfold ansT
  have kb := (HB1.out.below b2).cells
  simp only [cellsAre, Nat.zero_add, Nat.reduceAdd, and_true] at kb
  have X2 := Lib.hid (bt X1.out b2)
  clear b2 hp1 HC HB1 X1
  rcases ce with rfl | rfl | rfl
  all_goals
    go_wp2
    go_returns
    exact ⟨_, rfl, rfl, X2.out⟩
set_option maxHeartbeats 3200000 in
set_option maxRecDepth 100000 in
/-- All at any number. -/
theorem rall_any {w : World} {s d keep : Nat} {vs : List (Nat × MT)} {B : Nat → Nat} {br : Bool} (h : SR w s d keep vs B br) {N : Nat} (hN : VsN vs N) (hN2 : N ≤ 1000000000) (v : Int) :
    Calls Tryz.prog 43 #[.pointer (some ⟨s, 0, none⟩), .int .i64 v] w (Ret (fun z w' => ∃ p b1 b2, z = .func (.func FPW) #[] #[.pointer (some ⟨b1, 0, none⟩), .pointer (some ⟨b2, 0, none⟩)] ∧ TreP vs N v p ∧ w.heap.size ≤ b1 ∧ w.heap.size ≤ b2 ∧ Blk w' b1 TNP #[.pointer p] ∧ Blk w' b2 TST #[.string ⟨#[]⟩]) w) := by
  have HC := Lib.hid (rtree_any h hN hN2 v _ rfl)
  clear h
  go_enter Tryz.func43, Tryz.ntmps43
  go_wp2_with fail
  refine HC.out.mono ?_
  rintro e w1 ⟨v1, rfl, ⟨p1, rfl, hp1⟩, b1⟩
  unfold ansT
  have X1 := Lib.hid (show Ext w w1 from b1)
  have HP := Lib.hid hp1
  clear b1 hp1 HC
  go_wp2_with fail
  refine (rpairs_any p1 ⟨#[]⟩ w1).mono ?_
  rintro e w2 ⟨rfl, rfl⟩
  have g1 : Blk ((w1.alloc (.cells #[.pointer p1] TNP)).alloc (.cells #[.string ⟨#[]⟩] TST)) w1.heap.size TNP #[.pointer p1] := (Blk.new_ (w := w1) TNP #[.pointer p1] rfl).alloc _
  have g2 : Blk ((w1.alloc (.cells #[.pointer p1] TNP)).alloc (.cells #[.string ⟨#[]⟩] TST)) (w1.heap.size + 1) TST #[.string ⟨#[]⟩] := Blk.new_ _ _ (by simp)
  have x2 : Ext w ((w1.alloc (.cells #[.pointer p1] TNP)).alloc (.cells #[.string ⟨#[]⟩] TST)) := bt (bt X1.out (Ext.allocR _ _)) (Ext.allocR _ _)
  have G := Lib.hid (And.intro g1 (And.intro g2 x2))
  clear g1 g2 x2
  go_wp2
  go_returns
  exact ⟨_, rfl, ⟨p1, _, _, rfl, HP.out, Ext.size X1.out, Nat.le_succ_of_le (Ext.size X1.out), G.out.1, G.out.2.1⟩, G.out.2.2⟩
/-- The versions of a store, and which number is which. -/
theorem VsR.kept {keep : Nat} {vs : List (Nat × MT)} {Vs : List (List Pr)} (h : VsR keep vs Vs) {v : Nat} (hv : v < Vs.length) (hk : Vs.length - 1 - v ≤ keep) : ∃ t, ∃ hi : Vs.length - 1 - v < vs.length, (vs[Vs.length - 1 - v]).2 = t ∧ t.er.prs = Vs.getD v [] ∧ Srtd (Vs.getD v []) := by
  have hlen := h.len
  have hi : Vs.length - 1 - v < vs.length := by omega
  obtain ⟨t, ht1, ht2, _⟩ := h.at_ _ hi
  have hu : (vs[Vs.length - 1 - v]).2 = t := by
    rw [List.getElem?_eq_getElem hi] at ht1
    injection ht1 with ht1
    rw [ht1]
  have ho := (h.okAt hi).1
  rw [show Vs.length - 1 - (Vs.length - 1 - v) = v by omega] at ht2 ho
  exact ⟨t, hi, hu, ht2, ho⟩
section
variable {F : Nat → Prop} {w : World} {s d keep n left : Nat} {Vs : List (List Pr)}
/-- Diff of two kept versions. -/
theorem st_diff_ok (h : STl F w s d keep n Vs left) (hV : Vs.length ≤ 100000) {a b : Nat} (ha : a < Vs.length) (hb : b < Vs.length) (hka : Vs.length - 1 - a ≤ keep) (hkb : Vs.length - 1 - b ≤ keep) (hz : ∀ l ∈ Vs, l.length ≤ 100000) :
    Calls Tryz.prog 35 #[.pointer (some ⟨s, 0, none⟩), .int .i64 (a : Int), .int .i64 (b : Int)] w (Ret (fun z w' => ∃ z' l, z = ansR z' 0 ∧ Dif (Vs.getD a []) (Vs.getD b []) l ∧ OwC w.heap.size w' z' l) w) := by
  obtain ⟨vs, B, h1, h2⟩ := h.srE
  obtain ⟨t, hi, ht, hp, hs⟩ := h2.kept ha hka
  obtain ⟨u, hj, hu, hq, hr⟩ := h2.kept hb hkb
  have m1 : (Vs.getD a []).length ≤ 100000 := by rw [List.getD_eq_getElem?_getD, List.getElem?_eq_getElem ha]; exact hz _ (List.getElem_mem ha)
  have m2 : (Vs.getD b []).length ≤ 100000 := by rw [List.getD_eq_getElem?_getD, List.getElem?_eq_getElem hb]; exact hz _ (List.getElem_mem hb)
  have := rdiff_ok h1 h2.vsn (by omega) hi hj (a := (a : Int)) (b := (b : Int)) (by omega) (by omega) ht hu (by rw [hp]; exact hs) (by rw [hq]; exact hr) (by rw [← Tr.size_prs, hp]; exact m1) (by rw [← Tr.size_prs, hq]; exact m2)
  rw [hp, hq] at this
  exact this
/-- The error of a version's number. -/
def verS (Vs : List (List Pr)) (keep : Nat) (v : Int) : Int := verB (Vs.length - 1) (min (keep + 1) Vs.length) v
theorem st_diff_err (h : STl F w s d keep n Vs left) (hV : Vs.length ≤ 100000) (a b : Int) (hne : verS Vs keep a ≠ 0 ∨ verS Vs keep b ≠ 0) :
    Calls Tryz.prog 35 #[.pointer (some ⟨s, 0, none⟩), .int .i64 a, .int .i64 b] w (Ret (fun z _ => z = ansR (.slice none 0 0) (difE (verS Vs keep a) (verS Vs keep b))) w) := by
  obtain ⟨vs, B, h1, h2⟩ := h.srE
  exact rdiff_err h1 h2.vsn (by omega) a b _ _ (by unfold verS; rw [h2.len]) (by unfold verS; rw [h2.len]) hne
theorem verS_zero {v : Int} (hp : 0 < Vs.length) (h : verS Vs keep v = 0) : ∃ a : Nat, v = (a : Int) ∧ a < Vs.length ∧ Vs.length - 1 - a ≤ keep := by
  have h0 : 0 ≤ v := by
    unfold verS verB at h
    split at h
    · cases h
    · omega
  obtain ⟨a, rfl⟩ := Int.eq_ofNat_of_zero_le h0
  obtain ⟨h1, h2⟩ := verB_zero h (by omega)
  exact ⟨a, rfl, by omega, by omega⟩
theorem verS_cases (v : Int) : verS Vs keep v = 0 ∨ verS Vs keep v = 1 ∨ verS Vs keep v = 10 := verB_cases _ _ _
theorem st_get_bad (h : STl F w s d keep n Vs left) (hV : Vs.length ≤ 100000) (v : Int) (k : Str) (hks : k.size ≤ 1000000000) {kb : Bool} (hk : keyB k = kb) (hne : verS Vs keep v ≠ 0 ∨ kb = false) :
    Calls Tryz.prog 37 #[.pointer (some ⟨s, 0, none⟩), .int .i64 v, .string k] w (Ret (fun z _ => z = ansG none (if verS Vs keep v = 1 ∨ kb = false then 1 else 10)) w) := by
  obtain ⟨vs, B, h1, h2⟩ := h.srE
  exact rget_bad h1 h2.vsn (by omega) v _ (by unfold verS; rw [h2.len]) k hks hk hne
theorem st_range_neg (h : STl F w s d keep n Vs left) (hV : Vs.length ≤ 100000) (v : Int) (low high : Str) (most : Int) (hm : most < 0) :
    Calls Tryz.prog 31 #[.pointer (some ⟨s, 0, none⟩), .int .i64 v, .string low, .string high, .int .i64 most] w (Ret (fun z _ => z = ansR (.slice none 0 0) 1) w) := by
  obtain ⟨vs, B, h1, h2⟩ := h.srE
  exact rrange_neg h1 h2.vsn (by omega) v _ rfl low high most hm
theorem st_range_err (h : STl F w s d keep n Vs left) (hV : Vs.length ≤ 100000) (v : Int) (hne : verS Vs keep v ≠ 0) (low high : Str) (most : Nat) :
    Calls Tryz.prog 31 #[.pointer (some ⟨s, 0, none⟩), .int .i64 v, .string low, .string high, .int .i64 (most : Int)] w (Ret (fun z _ => z = ansR (.slice none 0 0) (verS Vs keep v)) w) := by
  obtain ⟨vs, B, h1, h2⟩ := h.srE
  exact rrange_err h1 h2.vsn (by omega) v _ (by unfold verS; rw [h2.len]) hne low high most
theorem st_range_any (h : STl F w s d keep n Vs left) (hV : Vs.length ≤ 100000) {v : Nat} (hv : v < Vs.length) (hk : Vs.length - 1 - v ≤ keep) (hz : ∀ l ∈ Vs, l.length ≤ 100000) (low high : Str) (most : Nat) (hm : most ≤ 9223372036854775807) (hh : high.size ≤ 1000000000) :
    Calls Tryz.prog 31 #[.pointer (some ⟨s, 0, none⟩), .int .i64 (v : Int), .string low, .string high, .int .i64 (most : Int)] w (Ret (fun z w' => ∃ z', z = ansR z' 0 ∧ OwP w.heap.size w' z' (rngP (Vs.getD v []) low high most)) w) := by
  obtain ⟨vs, B, h1, h2⟩ := h.srE
  obtain ⟨t, hi, ht, hp, hs⟩ := h2.kept hv hk
  have m1 : (Vs.getD v []).length ≤ 100000 := by rw [List.getD_eq_getElem?_getD, List.getElem?_eq_getElem hv]; exact hz _ (List.getElem_mem hv)
  have := callsIn_wide.1 (rrange_in h1 h2.vsn (by omega) hi (v := (v : Int)) (by omega) ht (by rw [hp]; exact hs) (by rw [← Tr.size_prs, hp]; exact m1) low high most hm hh)
  rw [hp] at this
  exact this
end
end Go.Proofs.Tb
