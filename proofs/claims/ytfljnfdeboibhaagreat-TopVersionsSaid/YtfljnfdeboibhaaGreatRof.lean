/- Contract of load: the walk. -/
import Derived.Test.YtfljnfdeboibhaaGreatRoe
set_option linter.unusedVariables false
set_option linter.unusedSimpArgs false
namespace Go.Proofs.Tb
open Go.Maps Go.RowKit Go.Lib
attribute [local go_sem] cell_set_same neqMapL

set_option maxHeartbeats 1600000 in
set_option maxRecDepth 100000 in
theorem rrd_up {F : Nat → Prop} {w : World} {d : Nat} {bl : List (List (List Nat))} {left : Nat} (hw : DW F w d bl false left) {k : Nat} (hk : k < bl.length) :
    Calls Tryz.prog 44 #[.pointer (some ⟨d, 0, none⟩), .int .i64 (k : Int)] w (Ret (fun z w' => ∃ A c, z = .tuple #[.slice A 64 c, .int .i64 0] ∧ OwB w.heap.size w' (.slice A 64 c) ((bl.getD k []).getLastD z64)) w) := by
  obtain ⟨g, h, hlo, hfp⟩ := hw
  obtain ⟨cur, hcur⟩ : ∃ cur, bl.map (fun l => l.getLastD z64) = cur := ⟨_, rfl⟩
  rw [hcur] at h
  have hlen : cur.length = bl.length := by rw [← hcur, List.length_map]
  have hx : cur.getD k z64 = (bl.getD k []).getLastD z64 := by
    rw [← hcur]
    simp [List.getD, hk]
  have hne : cur ≠ [] := fun e => by rw [e] at hlen; simp at hlen; omega
  obtain ⟨gb, cap, hv, hc1, hc2, hd⟩ := h.form hne
  obtain ⟨n, hn⟩ : ∃ n, cur.length = n := ⟨_, rfl⟩
  have hkn : (k : Int) < (n : Int) := by omega
  have hk0 : ¬ (k : Int) < 0 := by omega
  have hk1 : ¬ (n : Int) ≤ (k : Int) := by omega
  rw [hn] at hd
  have hkc : k < cur.length := by omega
  have HD := Lib.hid hd
  have HH := Lib.hid h
  have HX := Lib.hid hx
  have HK := Lib.hid hkc
  clear hlo hfp hcur hlen hx hne hv hc1 hd h hn hkc
  go_enter Tryz.func44, Tryz.ntmps44
  go_wp2_with fail
  refine (rready_any d g.m _ false left w HD.out).mono ?_
  rintro e w1 ⟨v1, rfl, rfl, b1⟩
  rw [show (if false = true then (9 : Int) else 0) = 0 from rfl]
  have k1 := (HD.out.below b1).cells
  simp only [cellsAre, Nat.zero_add, Nat.reduceAdd, and_true] at k1
  have X1 := Lib.hid b1
  clear b1
  go_wp2_with fail
  refine (rat_any (HH.out.ext X1.out) HK.out).mono ?_
  rintro e w2 ⟨v2, rfl, ⟨A2, c2, rfl, ho2⟩, b2⟩
  rw [HX.out] at ho2
  have HO := Lib.hid (show OwB w.heap.size w2 (.slice A2 64 c2) ((bl.getD k []).getLastD z64) from own_lower ho2 X1.out.size)
  have X2 := Lib.hid (bt X1.out b2)
  clear ho2 b2 k1
  go_wp2_with fail
  (try simp only [Exit.inBlock, Exit.then])
  refine bodyPost_ret (v := (.tuple #[.slice A2 64 c2, .int .i64 0])) (by simp [results, Tryz.results44, go_sem, *]) rfl ?_
  exact ⟨_, rfl, ⟨_, _, rfl, HO.out⟩, X2.out⟩
theorem nod_drop (k v : Str) (l r h : Nat) (hk : k.size ≤ 12) (hv : v.size ≤ 24) : (endB (nodB k v l r h)).drop 1 = txB k 12 ++ (txB v 24 ++ (beB l 2 ++ (beB r 2 ++ (beB h 1 ++ List.replicate 16 0)))) := by
  unfold endB
  rw [nodB_len hk hv]
  unfold nodB
  simp only [List.append_assoc, List.cons_append, List.nil_append, List.drop_succ_cons, List.drop_zero]
theorem lasts_at (bl : List (List (List Nat))) {k : Nat} (hk : k < bl.length) : (bl.getD k []).getLastD z64 = (lastsB bl).getD k z64 := by
  rw [List.getD_eq_getElem?_getD, List.getD_eq_getElem?_getD, List.getElem?_map, List.getElem?_eq_getElem hk]
  rfl
/-- Short rests of bytes. -/
def Shb (l : List Nat) : Prop := l.length ≤ 60 ∧ ∀ b ∈ l, b < 256
theorem Shb.be {x k : Nat} {l : List Nat} (h : Shb l) (hl : k + l.length ≤ 60) : Shb (beB x k ++ l) := ⟨by rw [List.length_append, beB_len]; exact hl, fun b hb => by
  rcases List.mem_append.1 hb with hb | hb
  · exact beB_lt _ _ b hb
  · exact h.2 b hb⟩
theorem Shb.tx {s : Str} {m : Nat} {l : List Nat} (h : Shb l) (hs : s.size ≤ m) (hl : m + 1 + l.length ≤ 60) : Shb (txB s m ++ l) := ⟨by rw [List.length_append, txB_len hs]; exact hl, fun b hb => by
  rcases List.mem_append.1 hb with hb | hb
  · exact txB_lt _ _ b hb
  · exact h.2 b hb⟩
theorem chg_below {X : Nat → Obj → Prop} {w W W' : World} (h : Chg X w W) (hb : Below w.heap.size W W') : Chg X w W' :=
  ⟨hb.os.trans h.os, hb.tape.trans h.tape, hb.output.trans h.output, Nat.le_trans h.size hb.size, fun b o hbo hX => (hb.block b (obj_lt hbo)).trans (h.same b o hbo hX)⟩
/-- A node that is being made. -/
structure NdS (w1 W : World) (gn p : Nat) (cs : Array Value) (rest : List Nat) : Prop where
  nd : Blk W gn TNO cs
  sc : ScW W p rest
  ex : Ext w1 W
  pg : p < gn
  g1 : w1.heap.size ≤ p
theorem NdS.adv {w1 W W' : World} {gn p : Nat} {cs : Array Value} {rest rest' : List Nat} (h : NdS w1 W gn p cs rest) (hp : ScP W W' p rest') : NdS w1 W' gn p cs rest' :=
  ⟨hp.ch.blk h.nd (fun e => by have e : gn = p := e; have := h.pg; omega), hp.sc, chg_ext h.ex hp.ch h.g1, h.pg, h.g1⟩
theorem NdS.put {w1 W : World} {gn p : Nat} {cs : Array Value} {rest : List Nat} (h : NdS w1 W gn p cs rest) (i : Nat) (u : Value) : NdS w1 (W.setCell ⟨gn, i, none⟩ u) gn p (cs.setIfInBounds i u) rest :=
  ⟨h.nd.set_ i u, h.sc.chg (X := fun b _ => b = gn) (Chg.setB h.nd rfl i u) (fun b o hb e => by have := h.pg; omega), h.ex.setCell (p := ⟨gn, i, none⟩) (by have := h.pg; have := h.g1; show w1.heap.size ≤ gn; omega) u, h.pg, h.g1⟩
/-- A node that is being made is none of the loaded ones. -/
theorem LdS.setN {w : World} {base lp hm d : Nat} {bl : List (List (List Nat))} {left : Nat} {B : Nat → Nat} {D : DataW Value} (h : LdS w base lp hm d bl left B D) {g : Nat} {cs : Array Value} (hg : Blk w g TNO cs) (hB : B g = 0) (i : Nat) (u : Value) : LdS (w.setCell ⟨g, i, none⟩ u) base lp hm d bl left B D := by
  have hc : Chg (fun b o => b = g ∧ ∃ cs, o = .cells cs TNO (0, 0)) w (w.setCell ⟨g, i, none⟩ u) := Chg.setB hg ⟨rfl, _, rfl⟩ i u
  refine h.chg hc (fun b o _ hM hX => ?_) (fun b cs hX => ?_) (fun b cs hX => ?_) (fun es c hX => ?_) fun b cs hb hX => ?_
  · obtain ⟨_, cs', rfl⟩ := hX
    have : TNO = TDK ∨ TNO = TBY ∨ TNO = TSE := hM
    revert this
    decide
  · obtain ⟨_, cs', e⟩ := hX
    injection e with _ e
    revert e
    decide
  · obtain ⟨_, cs', e⟩ := hX
    injection e with _ e
    revert e
    decide
  · obtain ⟨_, cs', e⟩ := hX
    cases e
  · obtain ⟨e, _⟩ := hX
    subst e
    omega
theorem TrW.setN {w : World} {B : Nat → Nat} {g : Nat} (hB : B g = 0) (i : Nat) (u : Value) : ∀ {t : MT}, TrW w B (Pos B) t → TrW (w.setCell ⟨g, i, none⟩ u) B (Pos B) t
  | .nil, _ => trivial
  | .node g' _ _ _ _, ⟨h1, h2, h3, h4⟩ => ⟨h1.far (p := ⟨g, i, none⟩) (fun e => by have e : g' = g := e; subst e; have h2 : 0 < B g' := h2; omega) u, h2, h3.setN hB i u, h4.setN hB i u⟩
/-- What load answers, for some tree. -/
def LdA (w w' : World) (base lp hm d : Nat) (bl : List (List (List Nat))) (left : Nat) (B : Nat → Nat) (T : Tr) (b : Nat) (e : Ending) : Prop :=
  ∃ t' B' D', e = .returned (.pointer t'.ad) ∧ LdP w w' base lp hm d bl left B T b t' B' D'
set_option maxHeartbeats 6400000 in
set_option maxRecDepth 100000 in
theorem rload_any (base lp hm d : Nat) (bl : List (List (List Nat))) (left : Nat) (B0 : Nat → Nat) : ∀ (t0 : MT) (limit : Nat) (w : World) (B : Nat → Nat) (D : DataW Value), t0.on (lastsB bl) B0 → OkP t0.er.prs → t0.er.ht < limit → limit ≤ 64 → LdS w base lp hm d bl left B D →
    Calls Tryz.prog 87 #[.pointer (some ⟨lp, 0, none⟩), .int .i64 ((t0.bk B0 : Nat) : Int), .int .i64 (limit : Int)] w fun e w' => LdA w w' base lp hm d bl left B t0.er (t0.bk B0) e := by
  intro t0
  induction t0 with
  | nil =>
    intro limit w B D hon hok hlim hl64 h
    have hlk : (Instr.lookup TMH (.map (some hm)) (.int .i64 0) false).run Tryz.prog w = .ok (.pointer none) w := h.look (k := 0) (by omega) (v := .pointer none) (Or.inl ⟨h.no0, rfl⟩)
    have kl := h.ld.cells
    simp only [cellsAre, Nat.zero_add, Nat.reduceAdd, and_true] at kl
    have HA := Lib.hid (show LdA w w base lp hm d bl left B Tr.nil 0 (.returned (.pointer none)) from ⟨.nil, B, D, rfl, rfl, trivial, trivial, rfl, h, fun _ _ => rfl, Chg.refl _ _⟩)
    clear h hon hok
    show Calls Tryz.prog 87 #[.pointer (some ⟨lp, 0, none⟩), .int .i64 0, .int .i64 (limit : Int)] w fun e w' => LdA w w' base lp hm d bl left B Tr.nil 0 e
    go_enter Tryz.func87, Tryz.ntmps87
    go_wp2
    go_returns
    exact HA.out
  | node g k v l r ihl ihr =>
    intro limit w B D hon hok hlim hl64 h
    obtain ⟨⟨hb2, hbl, hblk⟩, hol, hor⟩ := hon
    have hok' : OkP (l.er.prs ++ (k, v) :: r.er.prs) := hok
    have hlen : (lastsB bl).length = bl.length := List.length_map _
    have h96 : bl.length ≤ 4096 := by
      obtain ⟨gd, hdi, _, _⟩ := h.dk
      have := hdi.few
      rw [hlen] at this
      exact this
    have hbkl := MT.bk_lt (by rw [hlen]; exact h96) hol
    have hbkr := MT.bk_lt (by rw [hlen]; exact h96) hor
    rw [hlen] at hbl
    have hht : 1 + max l.er.ht r.er.ht < limit := hlim
    have HON := Lib.hid (show (MT.node g k v l r).on (lastsB bl) B0 from ⟨⟨hb2, by rw [hlen]; exact hbl, hblk⟩, hol, hor⟩)
    show Calls Tryz.prog 87 #[.pointer (some ⟨lp, 0, none⟩), .int .i64 ((B0 g : Nat) : Int), .int .i64 (limit : Int)] w fun e w' => LdA w w' base lp hm d bl left B (Tr.node k v l.er r.er) (B0 g) e
    obtain ⟨b, hb⟩ : ∃ b, B0 g = b := ⟨_, rfl⟩
    have HBG := Lib.hid hb
    rw [hb] at hb2 hbl hblk ⊢
    have kl := h.ld.cells
    simp only [cellsAre, Nat.zero_add, Nat.reduceAdd, and_true] at kl
    have pb0 : ¬ (b : Int) = 0 := by omega
    have pb1 : ((b : Int) == 0) = false := by rw [beq_eq_false_iff_ne]; exact pb0
    cases hhas : Maps.has D (kI b) with
    | true =>
      obtain ⟨t, a1, a2, a3, a4, a5, a6⟩ := h.yes b hhas
      have he := MT.on_eq (by rw [hlen]; exact h96) a4 HON.out a6 hok (by rw [a5]; exact hb.symm)
      have hlk := h.look (k := b) (by omega) (Or.inr a2)
      have HA := Lib.hid (show LdA w w base lp hm d bl left B (Tr.node k v l.er r.er) b (.returned (.pointer t.ad)) from ⟨t, B, D, rfl, he.1, a3, a4, a5, h, fun _ _ => rfl, Chg.refl _ _⟩)
      obtain ⟨ga, hga⟩ : ∃ ga, t.ad = some ga := by
        cases t with
        | nil => exact absurd rfl a1
        | node g' _ _ _ _ => exact ⟨_, rfl⟩
      rw [hga] at hlk HA
      clear h ihl ihr hok hok' hblk hol hor a1 a2 a3 a4 a5 a6 he hga hb
      go_enter Tryz.func87, Tryz.ntmps87
      go_wp2
      go_returns
      exact HA.out
    | false =>
      have hlk := h.look (k := b) (by omega) (v := .pointer none) (Or.inl ⟨hhas, rfl⟩)
      have HL := Lib.hid h
      have HK := Lib.hid hok'
      have HIL := Lib.hid ihl
      have HIR := Lib.hid ihr
      have HOL := Lib.hid (And.intro hol hor)
      have hx := Lib.hid hblk
      have hks := hok'.mid
      clear h ihl ihr hok hok' hblk hol hor hb hhas
      obtain ⟨nl, hnl⟩ : ∃ nl, l.bk B0 = nl := ⟨_, rfl⟩
      obtain ⟨nr, hnr⟩ : ∃ nr, r.bk B0 = nr := ⟨_, rfl⟩
      obtain ⟨nh, hnh⟩ : ∃ nh, 1 + max l.er.ht r.er.ht = nh := ⟨_, rfl⟩
      rw [hnl, hnr, hnh] at hx
      rw [hnl] at hbkl
      rw [hnr] at hbkr
      rw [hnh] at hht
      have HNH := Lib.hid (And.intro hnl (And.intro hnr hnh))
      have HLH := Lib.hid (show l.er.ht < nh ∧ r.er.ht < nh by omega)
      clear hnl hnr hnh
      have z0 : Shb (List.replicate 16 0) := ⟨by rw [List.length_replicate]; omega, fun b hb => by rw [List.mem_replicate] at hb; omega⟩
      have l0 : (List.replicate 16 0 : List Nat).length = 16 := List.length_replicate
      have z1 : Shb (beB nh 1 ++ List.replicate 16 0) := z0.be (by rw [l0]; omega)
      have l1 : (beB nh 1 ++ List.replicate 16 0).length = 17 := by rw [List.length_append, beB_len, l0]
      have z2 : Shb (beB nr 2 ++ (beB nh 1 ++ List.replicate 16 0)) := z1.be (by rw [l1]; omega)
      have l2 : (beB nr 2 ++ (beB nh 1 ++ List.replicate 16 0)).length = 19 := by rw [List.length_append, beB_len, l1]
      have z3 : Shb (beB nl 2 ++ (beB nr 2 ++ (beB nh 1 ++ List.replicate 16 0))) := z2.be (by rw [l2]; omega)
      have l3 : (beB nl 2 ++ (beB nr 2 ++ (beB nh 1 ++ List.replicate 16 0))).length = 21 := by rw [List.length_append, beB_len, l2]
      have z4 : Shb (txB v 24 ++ (beB nl 2 ++ (beB nr 2 ++ (beB nh 1 ++ List.replicate 16 0)))) := z3.tx hks.2 (by rw [l3]; omega)
      have HZ := Lib.hid (And.intro z0 (And.intro z1 (And.intro z2 (And.intro z3 z4))))
      clear z0 z1 z2 z3 z4 l0 l1 l2 l3
      go_enter Tryz.func87, Tryz.ntmps87
      go_wp2_with fail
      refine (rrd_up HL.out.dk hbl).mono ?_
      rintro e w1 ⟨z1, rfl, ⟨A1, c1, rfl, ho1⟩, b1⟩
      rw [lasts_at bl hbl, hx.out] at ho1
      have r1 := OwB.rv ho1
      have H1 := Lib.hid (HL.out.ext b1)
      have X1 := Lib.hid (show Ext w w1 from b1)
      have k1 := H1.out.ld.cells
      simp only [cellsAre, Nat.zero_add, Nat.reduceAdd, and_true] at k1
      clear b1 ho1 kl hlk
      go_wp2_with fail
      refine (ropen_ok A1 c1 (nodB k v nl nr nh) 110 w1 r1 (by rw [nodB_len hks.1 hks.2]; omega) rfl (nodB_lt k v nl nr nh)).mono ?_
      rintro e w2 ⟨z2, rfl, ⟨p, rfl, sc2, hp⟩, b2⟩
      rw [nod_drop k v nl nr nh hks.1 hks.2] at sc2
      have S2 := Lib.hid sc2
      have X2 := Lib.hid (show Ext w1 w2 from b2)
      have HP := Lib.hid hp
      clear b2 sc2 r1 hp k1
      go_upto_region 13 with fail
      have hpg : p < w2.heap.size := by obtain ⟨_, _, hk, _⟩ := S2.out; exact hk.lt
      refine wp_world (fun W => NdS w1 W w2.heap.size p #[.string ⟨#[]⟩, .string ⟨#[]⟩, .pointer none, .pointer none, .int .i64 0, .int .i64 (b : Int)] (txB k 12 ++ (txB v 24 ++ (beB nl 2 ++ (beB nr 2 ++ (beB nh 1 ++ List.replicate 16 0)))))) ⟨Blk.new_ _ _ rfl, S2.out.ext (Ext.allocR _ _), bt X2.out (Ext.allocR _ _), hpg, HP.out⟩ ?_
      rintro W3 h3
      obtain ⟨gn, hgn⟩ : ∃ gn, w2.heap.size = gn := ⟨_, rfl⟩
      rw [hgn] at h3 ⊢
      have N3 := Lib.hid h3
      have hgw : w.heap.size ≤ gn := by have := X1.out.size; have := X2.out.size; omega
      clear h3 hgn hpg S2 X2 HP
      go_wp2_with fail
      refine (rscan_text p 12 k _ W3 N3.out.sc hks.1 (by omega) (by omega) (by have := HZ.out.2.2.2.2.1; omega) HZ.out.2.2.2.2.2).mono ?_
      rintro e w4 ⟨rfl, p4⟩
      have N4 := Lib.hid (N3.out.adv p4)
      have f4 := N4.out.nd.free 0
      have N5 := Lib.hid (N4.out.put 0 (.string k))
      have k4 := N4.out.nd.cells
      simp only [cellsAre, Nat.zero_add, Nat.reduceAdd, and_true] at k4
      clear p4 N3
      go_wp2_with fail
      refine (rscan_text p 24 v _ _ N5.out.sc hks.2 (by omega) (by omega) (by have := HZ.out.2.2.2.1.1; omega) HZ.out.2.2.2.1.2).mono ?_
      rintro e w6 ⟨rfl, p6⟩
      have N6 := Lib.hid (N5.out.adv p6)
      have f6 := N6.out.nd.free 1
      have N7 := Lib.hid (N6.out.put 1 (.string v))
      have k6 := N6.out.nd.cells
      simp only [List.setIfInBounds_toArray, List.set_cons_zero, List.set_cons_succ, cellsAre, Nat.zero_add, Nat.reduceAdd, and_true] at k6
      clear p6 N4 N5 k4 f4
      go_wp2_with fail
      refine (rscan_be p 2 nl _ _ N7.out.sc (by omega) (by omega) (by show nl < 65536; omega) (by omega) (by have := HZ.out.2.2.1.1; omega) HZ.out.2.2.1.2).mono ?_
      rintro e w8 ⟨rfl, p8⟩
      have N8 := Lib.hid (N7.out.adv p8)
      clear p8 N6 N7 k6 f6
      go_wp2_with fail
      refine (rscan_be p 2 nr _ _ N8.out.sc (by omega) (by omega) (by show nr < 65536; omega) (by omega) (by have := HZ.out.2.1.1; omega) HZ.out.2.1.2).mono ?_
      rintro e w9 ⟨rfl, p9⟩
      have N9 := Lib.hid (N8.out.adv p9)
      clear p9 N8
      go_wp2_with fail
      refine (rscan_be p 1 nh _ _ N9.out.sc (by omega) (by omega) (by show nh < 256; omega) (by omega) (by have := HZ.out.1.1; omega) HZ.out.1.2).mono ?_
      rintro e wa ⟨rfl, pa⟩
      have Na := Lib.hid (N9.out.adv pa)
      have fa := Na.out.nd.free 4
      have Nb := Lib.hid (Na.out.put 4 (.int .i64 (nh : Int)))
      have ka := Na.out.nd.cells
      simp only [List.setIfInBounds_toArray, List.set_cons_zero, List.set_cons_succ, cellsAre, Nat.zero_add, Nat.reduceAdd, and_true] at ka
      have Hb := Lib.hid (H1.out.ext Nb.out.ex)
      have kb := Hb.out.ld.cells
      simp only [cellsAre, Nat.zero_add, Nat.reduceAdd, and_true] at kb
      have plim : ¬ (limit : Int) ≤ (nh : Int) := by omega
      clear pa N9 HZ H1
      go_wp2_with fail
      have hgb : wa.heap.size ≤ (wa.setCell ⟨gn, 4, none⟩ (.int .i64 (nh : Int))).heap.size := (Chg.setB (X := fun b _ => b = gn) Na.out.nd rfl 4 (.int .i64 (nh : Int))).size
      have HC := Lib.hid (HIL.out nh _ B D HOL.out.1 HK.out.left HLH.out.1 (by omega) Hb.out)
      rw [HNH.out.1] at HC
      have HXb := Lib.hid (show Ext w (wa.setCell ⟨gn, 4, none⟩ (.int .i64 (nh : Int))) from bt X1.out Nb.out.ex)
      have hBg : B gn = 0 := HL.out.bz gn hgw
      have hgl := Nb.out.nd.lt
      have nb := Nb.out.nd
      simp only [List.setIfInBounds_toArray, List.set_cons_zero, List.set_cons_succ] at nb
      obtain ⟨wb, hwb⟩ : ∃ wb, wa.setCell ⟨gn, 4, none⟩ (.int .i64 (nh : Int)) = wb := ⟨_, rfl⟩
      rw [hwb] at HC HXb hgl nb ⊢
      have NB := Lib.hid nb
      clear nb hgb Nb Hb Na ka kb fa hwb X1 plim
      refine HC.out.mono ?_
      rintro e wc ⟨t1, B1, D1, rfl, hp1⟩
      obtain ⟨a1, ha1⟩ : ∃ a1, t1.ad = a1 := ⟨_, rfl⟩
      have hB1 : B1 gn = 0 := (hp1.ag gn hgl).trans hBg
      have nc := hp1.ch.blk NB.out (XMp.no _ _ _)
      have fc := nc.free 2
      have kc := nc.cells
      simp only [cellsAre, Nat.zero_add, Nat.reduceAdd, and_true] at kc
      have nd2 := nc.set_ 2 (.pointer a1)
      simp only [List.setIfInBounds_toArray, List.set_cons_zero, List.set_cons_succ] at nd2
      have ND := Lib.hid nd2
      have HLd := Lib.hid (hp1.st.setN nc hB1 2 (.pointer a1))
      have HT1 := Lib.hid (TrW.setN hB1 2 (.pointer a1) hp1.tr)
      have kd := HLd.out.ld.cells
      simp only [cellsAre, Nat.zero_add, Nat.reduceAdd, and_true] at kd
      have HCd := Lib.hid (chg_below (hp1.ch) (show Below wb.heap.size wc wc from Below.refl _ _))
      have HXd := Lib.hid (show Chg (XMp hm) w (wc.setCell ⟨gn, 2, none⟩ (.pointer a1)) from chg_below ((Chg.ext HXb.out).trans hp1.ch) ((Below.refl _ _).setCell (p := ⟨gn, 2, none⟩) hgw _))
      have hgld := nd2.lt
      have HS1 := Lib.hid hp1
      have HA1 := Lib.hid ha1
      rw [ha1]
      clear nc nd2 HCd hp1 ha1
      go_wp2_with fail
      have HC2 := Lib.hid (HIR.out nh _ B1 D1 HOL.out.2 HK.out.right HLH.out.2 (by omega) HLd.out)
      rw [HNH.out.2.1] at HC2
      obtain ⟨wd, hwd⟩ : ∃ wd, wc.setCell ⟨gn, 2, none⟩ (.pointer a1) = wd := ⟨_, rfl⟩
      rw [hwd] at HC2 HXd ND HLd HT1 hgld kd ⊢
      have hszw : wb.heap.size ≤ wd.heap.size := by
        have h1 := HS1.out.ch.size
        have h2 : wd.heap.size = wc.heap.size := by rw [← hwd]; simp
        omega
      clear hwd fc kc kd
      refine HC2.out.mono ?_
      rintro e we ⟨t2, B2, D2, rfl, hp2⟩
      obtain ⟨a2, ha2⟩ : ∃ a2, t2.ad = a2 := ⟨_, rfl⟩
      have hB2 : B2 gn = 0 := (hp2.ag gn hgld).trans hB1
      have ne_ := hp2.ch.blk ND.out (XMp.no _ _ _)
      have fe := ne_.free 3
      have ke := ne_.cells
      simp only [cellsAre, Nat.zero_add, Nat.reduceAdd, and_true] at ke
      have nf := ne_.set_ 3 (.pointer a2)
      simp only [List.setIfInBounds_toArray, List.set_cons_zero, List.set_cons_succ] at nf
      have HLf := hp2.st.setN ne_ hB2 3 (.pointer a2)
      have T1 := TrW.setN hB2 3 (.pointer a2) ((hp2.ag.tr HT1.out).chg hp2.ch fun b cs => XMp.no b cs TNO)
      have T2 := TrW.setN hB2 3 (.pointer a2) hp2.tr
      have e1 : t1.bk B2 = nl := (hp2.ag.bk HT1.out).trans HS1.out.bk
      have o1 := hp2.ag.on HT1.out HS1.out.on
      have kf := HLf.ld.cells
      simp only [cellsAre, Nat.zero_add, Nat.reduceAdd, and_true] at kf
      have hxf : Chg (XMp hm) w (we.setCell ⟨gn, 3, none⟩ (.pointer a2)) := chg_below (HXd.out.trans hp2.ch) ((Below.refl _ _).setCell (p := ⟨gn, 3, none⟩) hgw _)
      rw [← HNH.out.2.2, ← HA1.out, ← HS1.out.er, ← hp2.er] at nf
      have hput := HLf.put (l := t1) (r := t2) (by rw [ha2]; exact nf) hB2 hb2 hbl T1 T2 (by rw [e1, hp2.bk, HS1.out.er, hp2.er, HNH.out.2.2]; exact hx.out) o1 hp2.on (by
        show OkP (t1.er.prs ++ (k, v) :: t2.er.prs)
        rw [HS1.out.er, hp2.er]
        exact HK.out)
      obtain ⟨wg, hrun, g1, g2, g3, g4⟩ := hput
      have HA := Lib.hid (show LdA w wg base lp hm d bl left B (Tr.node k v l.er r.er) b (.returned (.pointer (some ⟨gn, 0, none⟩))) from ⟨.node gn k v t1 t2, _, _, rfl, by show Tr.node k v t1.er t2.er = _; rw [HS1.out.er, hp2.er], g1, g2, if_pos rfl, g3, fun a ha => by
        have h1 := HXb.out.size
        show (if a = gn then b else B2 a) = B a
        rw [if_neg (by omega), hp2.ag a (by omega), HS1.out.ag a (by omega)], hxf.trans g4⟩)
      rw [ha2]
      clear ne_ nf HLf T1 T2 o1 hxf g1 g2 g3 g4 hp2 HS1 HT1 HXd HLd ND HC HC2 HIL HIR
      trace_state
      go_wp2
      go_returns
      exact HA.out
end Go.Proofs.Tb
