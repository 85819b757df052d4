/- Contract of (*Store).write. -/
import Derived.Test.YtfljnfdeboibhaaSvd
set_option linter.unusedVariables false
set_option linter.unusedSimpArgs false
namespace Go.Proofs.Tb
open Go.Maps Go.RowKit
attribute [local go_sem] cell_set_same neqMapL

/-- What write may change: the disk, and the nodes that get blocks. -/
def XW (F : Nat → Prop) (gs : List Nat) (b : Nat) (o : Obj) : Prop := MF F b o ∨ (b ∈ gs ∧ ∃ cs, o = .cells cs TNO (0, 0))
theorem XW.ty {F : Nat → Prop} {gs : List Nat} {b : Nat} {cs : Array Value} {T : TypeId} (h : XW F gs b (.cells cs T (0, 0))) : T = TDK ∨ T = TBY ∨ T = TSE ∨ T = TNO := by
  rcases h with h | ⟨_, cs', h⟩
  · rcases h.2 with h | h | h
    · exact Or.inl h
    · exact Or.inr (Or.inl h)
    · exact Or.inr (Or.inr (Or.inl h))
  · injection h with _ h
    exact Or.inr (Or.inr (Or.inr h))
theorem XW.np {F : Nat → Prop} {gs : List Nat} (b : Nat) (cs : Array Value) : ¬ XW F gs b (.cells cs TNP (0, 0)) := fun h => by
  rcases h.ty with h | h | h | h <;> exact absurd h (by decide)
theorem XW.ti {F : Nat → Prop} {gs : List Nat} (b : Nat) (cs : Array Value) : ¬ XW F gs b (.cells cs TIN (0, 0)) := fun h => by
  rcases h.ty with h | h | h | h <;> exact absurd h (by decide)
theorem XW.mf {F : Nat → Prop} {gs : List Nat} {b : Nat} {o : Obj} (h : MF F b o) : XW F gs b o := Or.inl h
def XN (g : Nat) (b : Nat) (o : Obj) : Prop := b = g ∧ ∃ cs, o = .cells cs TNO (0, 0)
theorem XN.mut {g b : Nat} {o : Obj} (hM : MutK o) : ¬ XN g b o := fun ⟨_, cs, e⟩ => by
  subst e
  have : TNO = TDK ∨ TNO = TBY ∨ TNO = TSE := hM
  revert this
  decide
theorem XN.u8 {g b : Nat} (cs : Array Value) : ¬ XN g b (.cells cs TU8 (0, 0)) := fun ⟨_, cs', e⟩ => by
  injection e with _ e
  revert e
  decide
theorem TrW.sub {w : World} {B B0 : Nat → Nat} {Q : Nat → Prop} : ∀ {t : MT}, TrW w B Q t → ∀ {u : MT}, u ∈ t.frs B0 → TrW w B Q u
  | .nil, _, u, h => by cases h
  | .node g k v l r, h, u, hu => by
    simp only [MT.frs] at hu
    split at hu
    · cases hu
    · rcases List.mem_append.1 hu with hu | hu
      · rcases List.mem_append.1 hu with hu | hu
        · exact h.2.2.1.sub hu
        · exact h.2.2.2.sub hu
      · rw [List.mem_singleton.1 hu]; exact h
/-- Where write stands. -/
structure WrS (F : Nat → Prop) (w wr : World) (d : Nat) (B : Nat → Nat) (Q : Nat → Prop) (t : MT) (fs : List Nat) (ps : List (Nat × List Nat)) (bl : List (List (List Nat))) (left j lf : Nat) (b2 : List (List (List Nat))) : Prop where
  dk : DW F wr d b2 false lf
  eq : wrA ps bl left = wrA (ps.drop j) b2 lf
  tr : TrW wr (asg B ((t.fr B).take j) fs) Q t
  ch : Chg (XW F (t.fr B)) w wr
  ln : b2.length = bl.length
  fw : ∀ k, (b2.getD k []).length ≤ 1 + j
structure WrT (F : Nat → Prop) (w W : World) (s d : Nat) (keep : Int) (A0 : Option Addr) (m0 c0 : Nat) (br : Bool) (B : Nat → Nat) (Q : Nat → Prop) (t : MT) (fs : List Nat) (u : MT) (lf : Nat) (b2 : List (List (List Nat))) (j : Nat) : Prop where
  se : Blk W s TSE #[.pointer (some ⟨d, 0, none⟩), .int .i64 keep, .slice A0 m0 c0, .bool br]
  dk : DW F W d b2 false lf
  tr : TrW W (asg B ((t.fr B).take j) fs) Q t
  nd : TrW W (asg B ((t.fr B).take j) fs) Q u
  ch : Chg (XW F (t.fr B)) w W
def erD (r : Dst) : Int := if r.dn = true then 9 else 0
structure WrE (F : Nat → Prop) (w w' : World) (d : Nat) (B : Nat → Nat) (Q : Nat → Prop) (t : MT) (fs : List Nat) (r : Dst) : Prop where
  dk : DW F w' d r.bl r.dn r.lf
  ch : Chg (XW F (t.fr B)) w w'
  tr : r.dn = false → TrW w' (asg B (t.fr B) fs) Q t
theorem own_rvv {base : Nat} {w : World} {T : TypeId} {k n m c : Nat} {A : Option Addr} {xs : List Value} (h : w.ownsRow base T k (.slice A m c) n xs) : Rv w k A m c xs := by
  obtain ⟨A', c', e, r⟩ := own_rv h
  injection e with e1 e2 e3
  subst e1 e2 e3
  exact r
theorem DW.few {F : Nat → Prop} {w : World} {d : Nat} {bl : List (List (List Nat))} {down : Bool} {left : Nat} (h : DW F w d bl down left) : bl.length ≤ 4096 := by
  obtain ⟨g, h1, _⟩ := h
  have := h1.few
  rwa [List.length_map] at this
theorem drop_at {α : Type} (l : List α) {j : Nat} (hj : j < l.length) : l.drop j = l[j] :: l.drop (j + 1) := (List.getElem_cons_drop hj).symm
set_option maxHeartbeats 6400000 in
set_option maxRecDepth 100000 in
theorem rwr_any {F : Nat → Prop} (s d : Nat) (keep : Int) (A0 : Option Addr) (m0 c0 : Nat) (br : Bool) (B : Nat → Nat) (Q : Nat → Prop) (t : MT) (fs : List Nat) (bl : List (List (List Nat))) (left : Nat) (w : World)
    (hs : Blk w s TSE #[.pointer (some ⟨d, 0, none⟩), .int .i64 keep, .slice A0 m0 c0, .bool br]) (hFs : ¬ F s) (hd : DW F w d bl false left) (hF : ∀ b, w.heap.size ≤ b → F b)
    (ht : TrW w B Q t) (hsr : Srtd t.er.prs) (hok : OkP t.er.prs) (hB : ∀ g, B g ≤ 4096) (hsz : t.er.size ≤ 100000)
    (hfs : ∀ f ∈ fs, f < bl.length) (n q : Nat) (hn0 : (t.fr B).length = n) (hq0 : fs.length = q) (hnq : n ≤ q) (hfew : ∀ k, (bl.getD k []).length ≤ 1)
    (An Af : Option Addr) (cn cf : Nat) (hn : w.ownsRow 0 TNP 1 (.slice An n cn) n (ptrs (t.fr B))) (hf : w.ownsRow 0 TIN 1 (.slice Af q cf) q (ri fs)) (ps : List (Nat × List Nat)) (hps : (t.frs B).map (ptB (asg B (t.fr B) fs)) = ps) :
    Calls Try.prog 54 #[.pointer (some ⟨s, 0, none⟩), .slice An n cn, .slice Af q cf] w fun e w' =>
      e = .returned (.int .i64 (erD (wrA ps bl left))) ∧ WrE F w w' d B Q t fs (wrA ps bl left) := by
  have rn := own_rvv hn
  have rf := own_rvv hf
  have hnle := rn.le
  have hncp := rn.cap
  have hfle := rf.le
  have hfcp := rf.cap
  have hb4 := hd.few
  have hn4 : n ≤ 100000 := by have := MT.fr_len B t; omega
  have hpl : ps.length = n := by rw [← hps, List.length_map, MT.frs_len, hn0]
  have hnd := ht.fr_nodup hsr
  have HND := Lib.hid hnd
  have HPL := Lib.hid hpl
  have HPS := Lib.hid hps
  have HS := Lib.hid hs
  have HFS := Lib.hid hFs
  have HF := Lib.hid hF
  have HT := Lib.hid ht
  have HOK := Lib.hid hok
  have HB := Lib.hid hB
  have HFL := Lib.hid hfs
  have HN0 := Lib.hid hn0
  have HQ0 := Lib.hid hq0
  have HN := Lib.hid hn
  have HFR := Lib.hid hf
  have HW0 := Lib.hid (show WrS F w w d B Q t fs ps bl left 0 left bl from ⟨hd, by rw [List.drop_zero], by rw [List.take_zero, asg_nil]; exact ht, Chg.refl _ _, rfl, fun k => by have := hfew k; omega⟩)
  clear hs hFs hd hF ht hsr hok hB hfs hn0 hq0 hfew hn hf hps hpl hnd rn rf
  go_enter Try.func54, Try.ntmps54
  go_wp2_with fail
  go_loopw [12] (fun i wr => ∃ (j lf : Nat) (b2 : List (List (List Nat))), j ≤ n ∧ i = .int .i64 (j : Int) ∧ WrS F w wr d B Q t fs ps bl left j lf b2) (fun i _ => n - (intOf i).toNat)
  case atStart => exact ⟨0, left, bl, by omega, rfl, HW0.out⟩
  case round =>
    clear HW0
    obtain ⟨j, lf, b2, hj, rfl, hw⟩ := hrel
    have HW := Lib.hid hw
    clear hw
    have hks := (HW.out.ch.blk HS.out (fun hX => by
      rcases hX with hX | ⟨_, cs, hX⟩
      · exact HFS.out hX.1
      · injection hX with _ hX
        revert hX
        decide)).cells
    simp only [cellsAre, Nat.zero_add, Nat.reduceAdd, and_true] at hks
    by_cases hjn : j < n
    · have pj : (j : Int) < (n : Int) := by omega
      have hjl : j < (t.frs B).length := by rw [MT.frs_len, HN0.out]; exact hjn
      have hjg : j < (t.fr B).length := by rw [HN0.out]; exact hjn
      have hjf : j < fs.length := by rw [HQ0.out]; omega
      have hfa := HT.out.frs_at j hjl
      obtain ⟨f, hfe⟩ : ∃ f, fs[j] = f := ⟨_, rfl⟩
      obtain ⟨u, hu⟩ : ∃ u, (t.frs B)[j] = u := ⟨_, rfl⟩
      have hgu : (t.fr B)[j] = u.g0 := by
        have h1 := MT.frs_fr B t
        have h2 : ((t.frs B).map MT.g0)[j]? = (t.fr B)[j]? := by rw [h1]
        rw [List.getElem?_map, List.getElem?_eq_getElem hjl, List.getElem?_eq_getElem hjg, hu] at h2
        simpa using h2.symm
      rw [hu] at hfa
      obtain ⟨g, k, v, l, r, rfl, hBg, hcl, hcr⟩ := hfa.ex
      have hg : (t.fr B)[j] = g := hgu
      have HSZ := Lib.hid (show l.er.size + r.er.size ≤ 100000 from by have h1 := hfa.sz; have h2 : (MT.node g k v l r).er.size = l.er.size + r.er.size + 1 := rfl; omega)
      have hkv := HOK.out (k, v) (hfa.pr (k, v) (by show (k, v) ∈ l.er.prs ++ (k, v) :: r.er.prs; simp))
      have HKV := Lib.hid hkv
      have hum : MT.node g k v l r ∈ t.frs B := by rw [← hu]; exact List.getElem_mem hjl
      have htu := HW.out.tr.sub hum
      have hBj : asg B ((t.fr B).take (j + 1)) fs = fun a => if a = g then f else asg B ((t.fr B).take j) fs a := by rw [asg_succ hjg hjf HND.out, hg, hfe]
      have hz : ∀ a ∈ t.fr B, B a = 0 := fun a ha => MT.fr_zero B t a ha
      have hgm : g ∈ (t.fr B).take (j + 1) := by rw [List.take_succ_eq_append_getElem hjg, hg]; exact List.mem_append_right _ (List.mem_singleton.2 rfl)
      have hpj : ps[j]'(by rw [HPL.out]; exact hjn) = (f, blkB (nodB k v (l.bk (asg B ((t.fr B).take (j + 1)) fs)) (r.bk (asg B ((t.fr B).take (j + 1)) fs)) (1 + max l.er.ht r.er.ht))) := by
        have hp1 : ps[j]? = some (ptB (asg B (t.fr B) fs) (.node g k v l r)) := by rw [← HPS.out, List.getElem?_map, List.getElem?_eq_getElem hjl, hu]; rfl
        rw [List.getElem?_eq_getElem (by rw [HPL.out]; exact hjn)] at hp1
        injection hp1 with hp1
        rw [hp1]
        have hs : ∀ a ∈ (t.fr B).take j, a ∈ (t.fr B).take (j + 1) := fun a ha => by rw [List.take_succ_eq_append_getElem hjg]; exact List.mem_append_left _ ha
        show (asg B (t.fr B) fs g, _) = _
        rw [bk_asg hz (j + 1) (hcl.mono hs), bk_asg hz (j + 1) (hcr.mono hs), ← hg, asg_at j hjg hjf HND.out, hfe]
      obtain ⟨bs, hbs⟩ : ∃ bs, blkB (nodB k v (l.bk (asg B ((t.fr B).take (j + 1)) fs)) (r.bk (asg B ((t.fr B).take (j + 1)) fs)) (1 + max l.er.ht r.er.ht)) = bs := ⟨_, rfl⟩
      rw [hbs] at hpj
      have HEQ := Lib.hid (show wrA ps bl left = wrA ((f, bs) :: ps.drop (j + 1)) b2 lf by rw [HW.out.eq, drop_at ps (by rw [HPL.out]; exact hjn), hpj])
      have HBS := Lib.hid hbs
      have HBJ := Lib.hid hBj
      have hfm := HFL.out f (by rw [← hfe]; exact List.getElem_mem hjf)
      have HFM := Lib.hid (show f < b2.length by rw [HW.out.ln]; exact hfm)
      have hf4 : f ≤ 4096 := by have := HW.out.dk.few; have := HFM.out; omega
      have HB2 := Lib.hid (show ∀ a, asg B ((t.fr B).take (j + 1)) fs a ≤ 1000000 from asg_le (fun a => Nat.le_trans (HB.out a) (by omega)) fun x hx => by have := HFL.out x hx; omega)
      obtain ⟨bn, on, hbn, hnc⟩ := (own_rvv (HW.out.ch.own HN.out fun b cs _ => XW.np b cs)).at_ (by omega)
      obtain ⟨bf, of, hbf, hfc⟩ := (own_rvv (HW.out.ch.own HFR.out fun b cs _ => XW.ti b cs)).at_ (by omega)
      have kn := hnc j (.pointer (some ⟨g, 0, none⟩)) (by unfold ptrs; rw [List.getElem?_map, List.getElem?_eq_getElem hjg, hg]; rfl)
      have kf := hfc j (.int .i64 (f : Int)) (by unfold ri; rw [List.getElem?_map, List.getElem?_eq_getElem hjf, hfe]; rfl)
      subst hbn hbf
      have cg := htu.1.cells
      simp only [cellsAre, Nat.zero_add, Nat.reduceAdd, and_true] at cg
      have fg := htu.1.free 5
      have HU := Lib.hid htu
      have hck : Chg (XW F (t.fr B)) wr (wr.setCell ⟨g, 5, none⟩ (.int .i64 (f : Int))) := Chg.setB htu.1 (Or.inr ⟨List.mem_of_mem_take hgm, _, rfl⟩) _ _
      have hcn : Chg (XN g) wr (wr.setCell ⟨g, 5, none⟩ (.int .i64 (f : Int))) := Chg.setB htu.1 ⟨rfl, _, rfl⟩ _ _
      have hsz2 : (wr.setCell ⟨g, 5, none⟩ (.int .i64 (f : Int))).heap.size = wr.heap.size := by simp [World.setCell]
      have HW1 := Lib.hid (show WrT F w (wr.setCell ⟨g, 5, none⟩ (.int .i64 (f : Int))) s d keep A0 m0 c0 br B Q t fs (.node g k v l r) lf b2 (j + 1) from
        ⟨(HW.out.ch.trans hck).blk HS.out (fun hX => by
          rcases hX with hX | ⟨_, cs, hX⟩
          · exact HFS.out hX.1
          · injection hX with _ hX
            revert hX
            decide), HW.out.dk.chg hcn (fun b o _ hM => XN.mut hM) (fun b cs => XN.u8 cs), by rw [HBJ.out]; exact HW.out.tr.upd, by rw [HBJ.out]; exact HU.out.upd, HW.out.ch.trans hck⟩)
      have HLN := Lib.hid HW.out.ln
      have HFW := Lib.hid HW.out.fw
      clear hfa hu hgu hum hg hcl hcr hBg hkv hBj hz hgm hpj hbs hfe hfm htu hnc hfc hck hcn hjl hjg hjf
      go_upto_region 5 with fail
      refine wp_world (fun W => WrT F w W s d keep A0 m0 c0 br B Q t fs (.node g k v l r) lf b2 (j + 1)) HW1.out ?_
      clear HW1 HW hks cg fg kn kf HU hsz2
      rintro W1 hw1
      have HW1 := Lib.hid hw1
      have ks := fun w' (hh : Ext W1 w') => (HW1.out.se.below hh).cells
      have kg := fun w' (hh : Ext W1 w') => (HW1.out.nd.1.below hh).cells
      simp only [cellsAre, Nat.zero_add, Nat.reduceAdd, and_true] at ks kg
      have hBg : asg B ((t.fr B).take (j + 1)) fs g = f := by rw [HBJ.out]; exact if_pos rfl
      rw [hBg] at kg
      have hst : Ext W1 W1.drew := Ext.drew _
      clear hw1 hBg
      refine wp_region_adv 10 [] [(0, true, some 24, none), (1, true, some 25, none), (2, true, some 26, none), (3, true, some 27, none), (4, true, some 28, none), (5, true, some 29, none), (6, true, some 30, none), (7, true, some 31, none), (8, true, some 32, none), (9, false, some 33, none)] (by kernel_rfl) (by kernel_rfl) (by kernel_rfl) (by intro it hit; (repeat (rcases List.mem_cons.1 hit with rfl | hit; (focus (intro o ho ev w; injection ho with ho; subst ho; kernel_rfl)))); cases hit) (fun _ _ _ _ _ => ⟨fun h => h, fun h => h⟩) hst ?_
      repeat (first | (refine wpSeq_pure (v := ?_) rfl ?_ ?_; rotate_left 1; (focus (intro wq_ hSq_; (try dsimp only at hSq_); go_simp; (try with_reducible rfl); done)); (try simp only [Act.put, List.setIfInBounds_toArray, List.set_cons_zero, List.set_cons_succ])) | (refine wpSeq_pureG (v := ?_) rfl rfl ?_ ?_; rotate_left 1; (focus (intro wq_ hSq_; (try dsimp only at hSq_); go_simp; (try with_reducible rfl); done)); (try simp only [Act.put, List.setIfInBounds_toArray, List.set_cons_zero, List.set_cons_succ])) | (refine wpSeq_off rfl rfl ?_; (try simp only [Act.put, List.setIfInBounds_toArray, List.set_cons_zero, List.set_cons_succ])) | (refine wpSeq_offU rfl ?_; (try simp only [Act.put, List.setIfInBounds_toArray, List.set_cons_zero, List.set_cons_succ])))
      first | refine wpSeq_call rfl (fun u1 g1 s1 K hK => ?_) | refine wpSeq_callG rfl rfl (fun u1 g1 s1 K hK => ?_)
      go_simp
      refine (rencode_any (asg B ((t.fr B).take (j + 1)) fs) Q g k v l r u1 (HW1.out.nd.below s1) HKV.out.1 HKV.out.2 (by have := HSZ.out; omega) HB2.out).mono ?_
      rintro e y1 ⟨z1, rfl, ⟨A1, c1, rfl, ho1⟩, b1⟩
      rw [HBS.out] at ho1
      (try go_wp2_with fail)
      refine hK.out _ _ b1 ?_
      clear hK K
      (try simp only [Act.put, List.setIfInBounds_toArray, List.set_cons_zero, List.set_cons_succ])
      repeat (first | (refine wpSeq_pure (v := ?_) rfl ?_ ?_; rotate_left 1; (focus (intro wq_ hSq_; (try dsimp only at hSq_); go_simp; (try with_reducible rfl); done)); (try simp only [Act.put, List.setIfInBounds_toArray, List.set_cons_zero, List.set_cons_succ])) | (refine wpSeq_pureG (v := ?_) rfl rfl ?_ ?_; rotate_left 1; (focus (intro wq_ hSq_; (try dsimp only at hSq_); go_simp; (try with_reducible rfl); done)); (try simp only [Act.put, List.setIfInBounds_toArray, List.set_cons_zero, List.set_cons_succ])) | (refine wpSeq_off rfl rfl ?_; (try simp only [Act.put, List.setIfInBounds_toArray, List.set_cons_zero, List.set_cons_succ])) | (refine wpSeq_offU rfl ?_; (try simp only [Act.put, List.setIfInBounds_toArray, List.set_cons_zero, List.set_cons_succ])))
      intro wz gz sz_
      (try simp only [endJ, List.drop_succ_cons, List.drop_zero])
      have HD5 := Lib.hid (HW1.out.dk.ext sz_)
      have HO5 := Lib.hid (own_lower (own_below ho1 gz) (Nat.zero_le _))
      have HC5 := Lib.hid (HW1.out.ch.trans (Chg.ext sz_))
      have HT5 := Lib.hid (HW1.out.tr.below sz_)
      clear ks kg hst s1 g1 b1 ho1 gz sz_ HW1
      obtain ⟨dn, hdn⟩ : ∃ dn, decide (lf = 1) = dn := ⟨_, rfl⟩
      obtain ⟨er, her⟩ : ∃ er : Int, (if lf = 1 then (9 : Int) else 0) = er := ⟨_, rfl⟩
      have HDN := Lib.hid hdn
      have HER := Lib.hid her
      clear hdn her
      go_wp2_with fail
      refine (rwrite_ok HD5.out (fun b hb => HF.out b (Nat.le_trans HC5.out.size hb)) HFM.out HO5.out (by have := HFW.out f; omega)).mono ?_
      rintro e w5 ⟨rfl, hd5, hc5⟩
      rw [HDN.out] at hd5
      rw [HER.out]
      have HD6 := Lib.hid (show DW F w5 d (putB b2 (f, bs)) dn (lf - 1) from hd5)
      have HC6 := Lib.hid (HC5.out.trans (hc5.mono fun b o h => Or.inl h))
      have HT6 := Lib.hid (HT5.out.chg hc5 MF.no)
      clear hd5 hc5
      by_cases hl1 : lf = 1
      · have e1 : er = 9 := by rw [← HER.out, if_pos hl1]
        have e2 : dn = true := by rw [← HDN.out, decide_eq_true hl1]
        have HEQ2 := Lib.hid (show wrA ps bl left = ⟨putB b2 (f, bs), true, 0⟩ by rw [HEQ.out]; unfold wrA; rw [if_pos hl1])
        subst e1 e2 hl1
        go_wp2
        go_returns
        rw [HEQ2.out]
        exact ⟨rfl, HD6.out, HC6.out, fun h => (by cases h)⟩
      · have e1 : er = 0 := by rw [← HER.out, if_neg hl1]
        have e2 : dn = false := by rw [← HDN.out, decide_eq_false hl1]
        have HEQ2 := Lib.hid (show wrA ps bl left = wrA (ps.drop (j + 1)) (putB b2 (f, bs)) (lf - 1) by rw [HEQ.out]; show (if lf = 1 then _ else _) = _; rw [if_neg hl1])
        subst e1 e2
        have HWZ := Lib.hid (show WrS F w w5 d B Q t fs ps bl left (j + 1) (lf - 1) (putB b2 (f, bs)) from ⟨HD6.out, HEQ2.out, HT6.out, HC6.out, by rw [putB_len]; exact HLN.out, fun k' => by have := putB_few (p := (f, bs)) HFW.out k'; omega⟩)
        clear hl1
        go_wp2
        go_roundw
        case rel => exact ⟨j + 1, _, _, by omega, by go_num, HWZ.out⟩
        case measure => simp [intOf]; omega
    · obtain rfl : j = n := by omega
      have HEQ := Lib.hid (show wrA ps bl left = ⟨if lf = 1 then b2 else safeB b2, decide (lf = 1), lf - 1⟩ by rw [HW.out.eq, List.drop_of_length_le (by rw [HPL.out]; exact Nat.le_refl _)]; rfl)
      have HTE := Lib.hid (show TrW wr (asg B (t.fr B) fs) Q t by
        have h := HW.out.tr
        rw [List.take_of_length_le (by rw [HN0.out]; exact Nat.le_refl _)] at h
        exact h)
      go_wp2_with fail
      refine (rsync_ok HW.out.dk (fun b hb => HF.out b (Nat.le_trans HW.out.ch.size hb))).mono ?_
      rintro e w5 ⟨rfl, hd5, hc5⟩
      have HZ := Lib.hid (And.intro hd5 (And.intro (HW.out.ch.trans (hc5.mono fun b o h => Or.inl h)) (HTE.out.chg hc5 MF.no)))
      clear hd5 hc5
      obtain ⟨er, her⟩ : ∃ er : Int, (if lf = 1 then (9 : Int) else 0) = er := ⟨_, rfl⟩
      have HER := Lib.hid her
      rw [her]
      clear her
      go_wp2
      go_returns
      rw [HEQ.out]
      exact ⟨by rw [← HER.out]; unfold erD; by_cases hl1 : lf = 1 <;> simp [hl1], HZ.out.1, HZ.out.2.1, fun _ => HZ.out.2.2⟩
end Go.Proofs.Tb
