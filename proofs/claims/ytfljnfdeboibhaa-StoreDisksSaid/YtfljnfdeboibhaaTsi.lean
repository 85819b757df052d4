/- Contract of (*Store).write. (With what follows it, in one text.) -/
import Derived.Test.YtfljnfdeboibhaaTsh
set_option linter.unusedVariables false
set_option linter.unusedSimpArgs false
/- Contract of (*Store).write. -/
namespace Go.Proofs.Tb
open Go.Maps Go.RowKit
attribute [local go_sem] cell_set_same neqMapL

/-- What write may change: the disk, and the nodes that get blocks. -/
def XW (F : Nat → Prop) (gs : List Nat) (b : Nat) (o : Obj) : Prop := MF F b o ∨ (b ∈ gs ∧ ∃ cs, o = .cells cs TNO (0, 0))
theorem XW.ty {F : Nat → Prop} {gs : List Nat} {b : Nat} {cs : Array Value} {T : TypeId} (h : XW F gs b (.cells cs T (0, 0))) : T = TDK ∨ T = TBY ∨ T = TSE ∨ T = TNO := by
  rcases h with h | ⟨_, cs', h⟩
  · rcases h.2 with h | h | h
    · exact Or.inl h
    · exact Or.inr (Or.inl h)
    · exact Or.inr (Or.inr (Or.inl h))
  · injection h with _ h
    exact Or.inr (Or.inr (Or.inr h))
theorem XW.np {F : Nat → Prop} {gs : List Nat} (b : Nat) (cs : Array Value) : ¬ XW F gs b (.cells cs TNP (0, 0)) := fun h => by
  rcases h.ty with h | h | h | h <;> exact absurd h (by decide)
theorem XW.ti {F : Nat → Prop} {gs : List Nat} (b : Nat) (cs : Array Value) : ¬ XW F gs b (.cells cs TIN (0, 0)) := fun h => by
  rcases h.ty with h | h | h | h <;> exact absurd h (by decide)
theorem XW.mf {F : Nat → Prop} {gs : List Nat} {b : Nat} {o : Obj} (h : MF F b o) : XW F gs b o := Or.inl h
def XN (g : Nat) (b : Nat) (o : Obj) : Prop := b = g ∧ ∃ cs, o = .cells cs TNO (0, 0)
theorem XN.mut {g b : Nat} {o : Obj} (hM : MutK o) : ¬ XN g b o := fun ⟨_, cs, e⟩ => by
  subst e
  have : TNO = TDK ∨ TNO = TBY ∨ TNO = TSE := hM
  revert this
  decide
theorem XN.u8 {g b : Nat} (cs : Array Value) : ¬ XN g b (.cells cs TU8 (0, 0)) := fun ⟨_, cs', e⟩ => by
  injection e with _ e
  revert e
  decide
theorem TrW.sub {w : World} {B B0 : Nat → Nat} {Q : Nat → Prop} : ∀ {t : MT}, TrW w B Q t → ∀ {u : MT}, u ∈ t.frs B0 → TrW w B Q u
  | .nil, _, u, h => by cases h
  | .node g k v l r, h, u, hu => by
    simp only [MT.frs] at hu
    split at hu
    · cases hu
    · rcases List.mem_append.1 hu with hu | hu
      · rcases List.mem_append.1 hu with hu | hu
        · exact h.2.2.1.sub hu
        · exact h.2.2.2.sub hu
      · rw [List.mem_singleton.1 hu]; exact h
/-- Where write stands. -/
structure WrS (F : Nat → Prop) (w wr : World) (d : Nat) (B : Nat → Nat) (Q : Nat → Prop) (t : MT) (fs : List Nat) (ps : List (Nat × List Nat)) (bl : List (List (List Nat))) (left j lf : Nat) (b2 : List (List (List Nat))) : Prop where
  dk : DW F wr d b2 false lf
  eq : wrA ps bl left = wrA (ps.drop j) b2 lf
  tr : TrW wr (asg B ((t.fr B).take j) fs) Q t
  ch : Chg (XW F (t.fr B)) w wr
  ln : b2.length = bl.length
  fw : ∀ k, (b2.getD k []).length ≤ 1 + j
structure WrT (F : Nat → Prop) (w W : World) (s d : Nat) (keep : Int) (A0 : Option Addr) (m0 c0 : Nat) (br : Bool) (B : Nat → Nat) (Q : Nat → Prop) (t : MT) (fs : List Nat) (u : MT) (lf : Nat) (b2 : List (List (List Nat))) (j : Nat) : Prop where
  se : Blk W s TSE #[.pointer (some ⟨d, 0, none⟩), .int .i64 keep, .slice A0 m0 c0, .bool br]
  dk : DW F W d b2 false lf
  tr : TrW W (asg B ((t.fr B).take j) fs) Q t
  nd : TrW W (asg B ((t.fr B).take j) fs) Q u
  ch : Chg (XW F (t.fr B)) w W
def erD (r : Dst) : Int := if r.dn = true then 9 else 0
structure WrE (F : Nat → Prop) (w w' : World) (d : Nat) (B : Nat → Nat) (Q : Nat → Prop) (t : MT) (fs : List Nat) (r : Dst) : Prop where
  dk : DW F w' d r.bl r.dn r.lf
  ch : Chg (XW F (t.fr B)) w w'
  tr : r.dn = false → TrW w' (asg B (t.fr B) fs) Q t
theorem own_rvv {base : Nat} {w : World} {T : TypeId} {k n m c : Nat} {A : Option Addr} {xs : List Value} (h : w.ownsRow base T k (.slice A m c) n xs) : Rv w k A m c xs := by
  obtain ⟨A', c', e, r⟩ := own_rv h
  injection e with e1 e2 e3
  subst e1 e2 e3
  exact r
theorem DW.few {F : Nat → Prop} {w : World} {d : Nat} {bl : List (List (List Nat))} {down : Bool} {left : Nat} (h : DW F w d bl down left) : bl.length ≤ 4096 := by
  obtain ⟨g, h1, _⟩ := h
  have := h1.few
  rwa [List.length_map] at this
theorem drop_at {α : Type} (l : List α) {j : Nat} (hj : j < l.length) : l.drop j = l[j] :: l.drop (j + 1) := (List.getElem_cons_drop hj).symm
set_option maxHeartbeats 6400000 in
set_option maxRecDepth 100000 in
theorem rwr_any {F : Nat → Prop} (s d : Nat) (keep : Int) (A0 : Option Addr) (m0 c0 : Nat) (br : Bool) (B : Nat → Nat) (Q : Nat → Prop) (t : MT) (fs : List Nat) (bl : List (List (List Nat))) (left : Nat) (w : World)
    (hs : Blk w s TSE #[.pointer (some ⟨d, 0, none⟩), .int .i64 keep, .slice A0 m0 c0, .bool br]) (hFs : ¬ F s) (hd : DW F w d bl false left) (hF : ∀ b, w.heap.size ≤ b → F b)
    (ht : TrW w B Q t) (hsr : Srtd t.er.prs) (hok : OkP t.er.prs) (hB : ∀ g, B g ≤ 4096) (hsz : t.er.size ≤ 100000)
    (hfs : ∀ f ∈ fs, f < bl.length) (n q : Nat) (hn0 : (t.fr B).length = n) (hq0 : fs.length = q) (hnq : n ≤ q) (hfew : ∀ k, (bl.getD k []).length ≤ 1)
    (An Af : Option Addr) (cn cf : Nat) (hn : w.ownsRow 0 TNP 1 (.slice An n cn) n (ptrs (t.fr B))) (hf : w.ownsRow 0 TIN 1 (.slice Af q cf) q (ri fs)) (ps : List (Nat × List Nat)) (hps : (t.frs B).map (ptB (asg B (t.fr B) fs)) = ps) :
    Calls Try.prog 54 #[.pointer (some ⟨s, 0, none⟩), .slice An n cn, .slice Af q cf] w fun e w' =>
      e = .returned (.int .i64 (erD (wrA ps bl left))) ∧ WrE F w w' d B Q t fs (wrA ps bl left) := by
  have rn := own_rvv hn
  have rf := own_rvv hf
  have hnle := rn.le
  have hncp := rn.cap
  have hfle := rf.le
  have hfcp := rf.cap
  have hb4 := hd.few
  have hn4 : n ≤ 100000 := by have := MT.fr_len B t; omega
  have hpl : ps.length = n := by rw [← hps, List.length_map, MT.frs_len, hn0]
  have hnd := ht.fr_nodup hsr
  have HND := Lib.hid hnd
  have HPL := Lib.hid hpl
  have HPS := Lib.hid hps
  have HS := Lib.hid hs
  have HFS := Lib.hid hFs
  have HF := Lib.hid hF
  have HT := Lib.hid ht
  have HOK := Lib.hid hok
  have HB := Lib.hid hB
  have HFL := Lib.hid hfs
  have HN0 := Lib.hid hn0
  have HQ0 := Lib.hid hq0
  have HN := Lib.hid hn
  have HFR := Lib.hid hf
  have HW0 := Lib.hid (show WrS F w w d B Q t fs ps bl left 0 left bl from ⟨hd, by rw [List.drop_zero], by rw [List.take_zero, asg_nil]; exact ht, Chg.refl _ _, rfl, fun k => by have := hfew k; omega⟩)
  clear hs hFs hd hF ht hsr hok hB hfs hn0 hq0 hfew hn hf hps hpl hnd rn rf
  go_enter Try.func54, Try.ntmps54
  go_wp2_with fail
  go_loopw [12] (fun i wr => ∃ (j lf : Nat) (b2 : List (List (List Nat))), j ≤ n ∧ i = .int .i64 (j : Int) ∧ WrS F w wr d B Q t fs ps bl left j lf b2) (fun i _ => n - (intOf i).toNat)
  case atStart => exact ⟨0, left, bl, by omega, rfl, HW0.out⟩
  case round =>
    clear HW0
    obtain ⟨j, lf, b2, hj, rfl, hw⟩ := hrel
    have HW := Lib.hid hw
    clear hw
    have hks := (HW.out.ch.blk HS.out (fun hX => by
      rcases hX with hX | ⟨_, cs, hX⟩
      · exact HFS.out hX.1
      · injection hX with _ hX
        revert hX
        decide)).cells
    simp only [cellsAre, Nat.zero_add, Nat.reduceAdd, and_true] at hks
    by_cases hjn : j < n
    · have pj : (j : Int) < (n : Int) := by omega
      have hjl : j < (t.frs B).length := by rw [MT.frs_len, HN0.out]; exact hjn
      have hjg : j < (t.fr B).length := by rw [HN0.out]; exact hjn
      have hjf : j < fs.length := by rw [HQ0.out]; omega
      have hfa := HT.out.frs_at j hjl
      obtain ⟨f, hfe⟩ : ∃ f, fs[j] = f := ⟨_, rfl⟩
      obtain ⟨u, hu⟩ : ∃ u, (t.frs B)[j] = u := ⟨_, rfl⟩
      have hgu : (t.fr B)[j] = u.g0 := by
        have h1 := MT.frs_fr B t
        have h2 : ((t.frs B).map MT.g0)[j]? = (t.fr B)[j]? := by rw [h1]
        rw [List.getElem?_map, List.getElem?_eq_getElem hjl, List.getElem?_eq_getElem hjg, hu] at h2
        simpa using h2.symm
      rw [hu] at hfa
      obtain ⟨g, k, v, l, r, rfl, hBg, hcl, hcr⟩ := hfa.ex
      have hg : (t.fr B)[j] = g := hgu
      have HSZ := Lib.hid (show l.er.size + r.er.size ≤ 100000 from by have h1 := hfa.sz; have h2 : (MT.node g k v l r).er.size = l.er.size + r.er.size + 1 := rfl; omega)
      have hkv := HOK.out (k, v) (hfa.pr (k, v) (by show (k, v) ∈ l.er.prs ++ (k, v) :: r.er.prs; simp))
      have HKV := Lib.hid hkv
      have hum : MT.node g k v l r ∈ t.frs B := by rw [← hu]; exact List.getElem_mem hjl
      have htu := HW.out.tr.sub hum
      have hBj : asg B ((t.fr B).take (j + 1)) fs = fun a => if a = g then f else asg B ((t.fr B).take j) fs a := by rw [asg_succ hjg hjf HND.out, hg, hfe]
      have hz : ∀ a ∈ t.fr B, B a = 0 := fun a ha => MT.fr_zero B t a ha
      have hgm : g ∈ (t.fr B).take (j + 1) := by rw [List.take_succ_eq_append_getElem hjg, hg]; exact List.mem_append_right _ (List.mem_singleton.2 rfl)
      have hpj : ps[j]'(by rw [HPL.out]; exact hjn) = (f, blkB (nodB k v (l.bk (asg B ((t.fr B).take (j + 1)) fs)) (r.bk (asg B ((t.fr B).take (j + 1)) fs)) (1 + max l.er.ht r.er.ht))) := by
        have hp1 : ps[j]? = some (ptB (asg B (t.fr B) fs) (.node g k v l r)) := by rw [← HPS.out, List.getElem?_map, List.getElem?_eq_getElem hjl, hu]; rfl
        rw [List.getElem?_eq_getElem (by rw [HPL.out]; exact hjn)] at hp1
        injection hp1 with hp1
        rw [hp1]
        have hs : ∀ a ∈ (t.fr B).take j, a ∈ (t.fr B).take (j + 1) := fun a ha => by rw [List.take_succ_eq_append_getElem hjg]; exact List.mem_append_left _ ha
        show (asg B (t.fr B) fs g, _) = _
        rw [bk_asg hz (j + 1) (hcl.mono hs), bk_asg hz (j + 1) (hcr.mono hs), ← hg, asg_at j hjg hjf HND.out, hfe]
      obtain ⟨bs, hbs⟩ : ∃ bs, blkB (nodB k v (l.bk (asg B ((t.fr B).take (j + 1)) fs)) (r.bk (asg B ((t.fr B).take (j + 1)) fs)) (1 + max l.er.ht r.er.ht)) = bs := ⟨_, rfl⟩
      rw [hbs] at hpj
      have HEQ := Lib.hid (show wrA ps bl left = wrA ((f, bs) :: ps.drop (j + 1)) b2 lf by rw [HW.out.eq, drop_at ps (by rw [HPL.out]; exact hjn), hpj])
      have HBS := Lib.hid hbs
      have HBJ := Lib.hid hBj
      have hfm := HFL.out f (by rw [← hfe]; exact List.getElem_mem hjf)
      have HFM := Lib.hid (show f < b2.length by rw [HW.out.ln]; exact hfm)
      have hf4 : f ≤ 4096 := by have := HW.out.dk.few; have := HFM.out; omega
      have HB2 := Lib.hid (show ∀ a, asg B ((t.fr B).take (j + 1)) fs a ≤ 1000000 from asg_le (fun a => Nat.le_trans (HB.out a) (by omega)) fun x hx => by have := HFL.out x hx; omega)
      obtain ⟨bn, on, hbn, hnc⟩ := (own_rvv (HW.out.ch.own HN.out fun b cs _ => XW.np b cs)).at_ (by omega)
      obtain ⟨bf, of, hbf, hfc⟩ := (own_rvv (HW.out.ch.own HFR.out fun b cs _ => XW.ti b cs)).at_ (by omega)
      have kn := hnc j (.pointer (some ⟨g, 0, none⟩)) (by unfold ptrs; rw [List.getElem?_map, List.getElem?_eq_getElem hjg, hg]; rfl)
      have kf := hfc j (.int .i64 (f : Int)) (by unfold ri; rw [List.getElem?_map, List.getElem?_eq_getElem hjf, hfe]; rfl)
      subst hbn hbf
      have cg := htu.1.cells
      simp only [cellsAre, Nat.zero_add, Nat.reduceAdd, and_true] at cg
      have fg := htu.1.free 5
      have HU := Lib.hid htu
      have hck : Chg (XW F (t.fr B)) wr (wr.setCell ⟨g, 5, none⟩ (.int .i64 (f : Int))) := Chg.setB htu.1 (Or.inr ⟨List.mem_of_mem_take hgm, _, rfl⟩) _ _
      have hcn : Chg (XN g) wr (wr.setCell ⟨g, 5, none⟩ (.int .i64 (f : Int))) := Chg.setB htu.1 ⟨rfl, _, rfl⟩ _ _
      have hsz2 : (wr.setCell ⟨g, 5, none⟩ (.int .i64 (f : Int))).heap.size = wr.heap.size := by simp [World.setCell]
      have HW1 := Lib.hid (show WrT F w (wr.setCell ⟨g, 5, none⟩ (.int .i64 (f : Int))) s d keep A0 m0 c0 br B Q t fs (.node g k v l r) lf b2 (j + 1) from
        ⟨(HW.out.ch.trans hck).blk HS.out (fun hX => by
          rcases hX with hX | ⟨_, cs, hX⟩
          · exact HFS.out hX.1
          · injection hX with _ hX
            revert hX
            decide), HW.out.dk.chg hcn (fun b o _ hM => XN.mut hM) (fun b cs => XN.u8 cs), by rw [HBJ.out]; exact HW.out.tr.upd, by rw [HBJ.out]; exact HU.out.upd, HW.out.ch.trans hck⟩)
      have HLN := Lib.hid HW.out.ln
      have HFW := Lib.hid HW.out.fw
      clear hfa hu hgu hum hg hcl hcr hBg hkv hBj hz hgm hpj hbs hfe hfm htu hnc hfc hck hcn hjl hjg hjf
      go_upto_region 5 with fail
      refine wp_world (fun W => WrT F w W s d keep A0 m0 c0 br B Q t fs (.node g k v l r) lf b2 (j + 1)) HW1.out ?_
      clear HW1 HW hks cg fg kn kf HU hsz2
      rintro W1 hw1
      have HW1 := Lib.hid hw1
      have ks := fun w' (hh : Ext W1 w') => (HW1.out.se.below hh).cells
      have kg := fun w' (hh : Ext W1 w') => (HW1.out.nd.1.below hh).cells
      simp only [cellsAre, Nat.zero_add, Nat.reduceAdd, and_true] at ks kg
      have hBg : asg B ((t.fr B).take (j + 1)) fs g = f := by rw [HBJ.out]; exact if_pos rfl
      rw [hBg] at kg
      have hst : Ext W1 W1.drew := Ext.drew _
      clear hw1 hBg
      refine wp_region_adv 10 [] [(0, true, some 24, none), (1, true, some 25, none), (2, true, some 26, none), (3, true, some 27, none), (4, true, some 28, none), (5, true, some 29, none), (6, true, some 30, none), (7, true, some 31, none), (8, true, some 32, none), (9, false, some 33, none)] (by kernel_rfl) (by kernel_rfl) (by kernel_rfl) (by intro it hit; (repeat (rcases List.mem_cons.1 hit with rfl | hit; (focus (intro o ho ev w; injection ho with ho; subst ho; kernel_rfl)))); cases hit) (fun _ _ _ _ _ => ⟨fun h => h, fun h => h⟩) hst ?_
      repeat (first | (refine wpSeq_pure (v := ?_) rfl ?_ ?_; rotate_left 1; (focus (intro wq_ hSq_; (try dsimp only at hSq_); go_simp; (try with_reducible rfl); done)); (try simp only [Act.put, List.setIfInBounds_toArray, List.set_cons_zero, List.set_cons_succ])) | (refine wpSeq_pureG (v := ?_) rfl rfl ?_ ?_; rotate_left 1; (focus (intro wq_ hSq_; (try dsimp only at hSq_); go_simp; (try with_reducible rfl); done)); (try simp only [Act.put, List.setIfInBounds_toArray, List.set_cons_zero, List.set_cons_succ])) | (refine wpSeq_off rfl rfl ?_; (try simp only [Act.put, List.setIfInBounds_toArray, List.set_cons_zero, List.set_cons_succ])) | (refine wpSeq_offU rfl ?_; (try simp only [Act.put, List.setIfInBounds_toArray, List.set_cons_zero, List.set_cons_succ])))
      first | refine wpSeq_call rfl (fun u1 g1 s1 K hK => ?_) | refine wpSeq_callG rfl rfl (fun u1 g1 s1 K hK => ?_)
      go_simp
      refine (rencode_any (asg B ((t.fr B).take (j + 1)) fs) Q g k v l r u1 (HW1.out.nd.below s1) HKV.out.1 HKV.out.2 (by have := HSZ.out; omega) HB2.out).mono ?_
      rintro e y1 ⟨z1, rfl, ⟨A1, c1, rfl, ho1⟩, b1⟩
      rw [HBS.out] at ho1
      (try go_wp2_with fail)
      refine hK.out _ _ b1 ?_
      clear hK K
      (try simp only [Act.put, List.setIfInBounds_toArray, List.set_cons_zero, List.set_cons_succ])
      repeat (first | (refine wpSeq_pure (v := ?_) rfl ?_ ?_; rotate_left 1; (focus (intro wq_ hSq_; (try dsimp only at hSq_); go_simp; (try with_reducible rfl); done)); (try simp only [Act.put, List.setIfInBounds_toArray, List.set_cons_zero, List.set_cons_succ])) | (refine wpSeq_pureG (v := ?_) rfl rfl ?_ ?_; rotate_left 1; (focus (intro wq_ hSq_; (try dsimp only at hSq_); go_simp; (try with_reducible rfl); done)); (try simp only [Act.put, List.setIfInBounds_toArray, List.set_cons_zero, List.set_cons_succ])) | (refine wpSeq_off rfl rfl ?_; (try simp only [Act.put, List.setIfInBounds_toArray, List.set_cons_zero, List.set_cons_succ])) | (refine wpSeq_offU rfl ?_; (try simp only [Act.put, List.setIfInBounds_toArray, List.set_cons_zero, List.set_cons_succ])))
      intro wz gz sz_
      (try simp only [endJ, List.drop_succ_cons, List.drop_zero])
      have HD5 := Lib.hid (HW1.out.dk.ext sz_)
      have HO5 := Lib.hid (own_lower (own_below ho1 gz) (Nat.zero_le _))
      have HC5 := Lib.hid (HW1.out.ch.trans (Chg.ext sz_))
      have HT5 := Lib.hid (HW1.out.tr.below sz_)
      clear ks kg hst s1 g1 b1 ho1 gz sz_ HW1
      obtain ⟨dn, hdn⟩ : ∃ dn, decide (lf = 1) = dn := ⟨_, rfl⟩
      obtain ⟨er, her⟩ : ∃ er : Int, (if lf = 1 then (9 : Int) else 0) = er := ⟨_, rfl⟩
      have HDN := Lib.hid hdn
      have HER := Lib.hid her
      clear hdn her
      go_wp2_with fail
      refine (rwrite_ok HD5.out (fun b hb => HF.out b (Nat.le_trans HC5.out.size hb)) HFM.out HO5.out (by have := HFW.out f; omega)).mono ?_
      rintro e w5 ⟨rfl, hd5, hc5⟩
      rw [HDN.out] at hd5
      rw [HER.out]
      have HD6 := Lib.hid (show DW F w5 d (putB b2 (f, bs)) dn (lf - 1) from hd5)
      have HC6 := Lib.hid (HC5.out.trans (hc5.mono fun b o h => Or.inl h))
      have HT6 := Lib.hid (HT5.out.chg hc5 MF.no)
      clear hd5 hc5
      by_cases hl1 : lf = 1
      · have e1 : er = 9 := by rw [← HER.out, if_pos hl1]
        have e2 : dn = true := by rw [← HDN.out, decide_eq_true hl1]
        have HEQ2 := Lib.hid (show wrA ps bl left = ⟨putB b2 (f, bs), true, 0⟩ by rw [HEQ.out]; unfold wrA; rw [if_pos hl1])
        subst e1 e2 hl1
        go_wp2
        go_returns
        rw [HEQ2.out]
        exact ⟨rfl, HD6.out, HC6.out, fun h => (by cases h)⟩
      · have e1 : er = 0 := by rw [← HER.out, if_neg hl1]
        have e2 : dn = false := by rw [← HDN.out, decide_eq_false hl1]
        have HEQ2 := Lib.hid (show wrA ps bl left = wrA (ps.drop (j + 1)) (putB b2 (f, bs)) (lf - 1) by rw [HEQ.out]; show (if lf = 1 then _ else _) = _; rw [if_neg hl1])
        subst e1 e2
        have HWZ := Lib.hid (show WrS F w w5 d B Q t fs ps bl left (j + 1) (lf - 1) (putB b2 (f, bs)) from ⟨HD6.out, HEQ2.out, HT6.out, HC6.out, by rw [putB_len]; exact HLN.out, fun k' => by have := putB_few (p := (f, bs)) HFW.out k'; omega⟩)
        clear hl1
        go_wp2
        go_roundw
        case rel => exact ⟨j + 1, _, _, by omega, by go_num, HWZ.out⟩
        case measure => simp [intOf]; omega
    · obtain rfl : j = n := by omega
      have HEQ := Lib.hid (show wrA ps bl left = ⟨if lf = 1 then b2 else safeB b2, decide (lf = 1), lf - 1⟩ by rw [HW.out.eq, List.drop_of_length_le (by rw [HPL.out]; exact Nat.le_refl _)]; rfl)
      have HTE := Lib.hid (show TrW wr (asg B (t.fr B) fs) Q t by
        have h := HW.out.tr
        rw [List.take_of_length_le (by rw [HN0.out]; exact Nat.le_refl _)] at h
        exact h)
      go_wp2_with fail
      refine (rsync_ok HW.out.dk (fun b hb => HF.out b (Nat.le_trans HW.out.ch.size hb))).mono ?_
      rintro e w5 ⟨rfl, hd5, hc5⟩
      have HZ := Lib.hid (And.intro hd5 (And.intro (HW.out.ch.trans (hc5.mono fun b o h => Or.inl h)) (HTE.out.chg hc5 MF.no)))
      clear hd5 hc5
      obtain ⟨er, her⟩ : ∃ er : Int, (if lf = 1 then (9 : Int) else 0) = er := ⟨_, rfl⟩
      have HER := Lib.hid her
      rw [her]
      clear her
      go_wp2
      go_returns
      rw [HEQ.out]
      exact ⟨by rw [← HER.out]; unfold erD; by_cases hl1 : lf = 1 <;> simp [hl1], HZ.out.1, HZ.out.2.1, fun _ => HZ.out.2.2⟩
end Go.Proofs.Tb
/- Contract of (*Store).anchor. -/
namespace Go.Proofs.Tb
open Go.Maps Go.RowKit
attribute [local go_sem] cell_set_same neqMapL

abbrev TIS : TypeId := 109
theorem in_info : (Try.prog.info? TIN).map (fun i => (i.zero, i.size, i.bytes)) = some (some (.int .i64 0), 1, 8) := by kernel_rfl
theorem ri_app (a b : List Nat) : ri (a ++ b) = ri a ++ ri b := List.map_append
/-- The blocks of the roots. -/
def rtB (B : Nat → Nat) (vs : List (Nat × MT)) : List Nat := vs.map fun v => v.2.bk B
structure AncE (F : Nat → Prop) (w w' : World) (d : Nat) (r : Dst) : Prop where
  dk : DW F w' d r.bl r.dn r.lf
  ch : Chg (MF F) w w'
/-- Where anchor stands. -/
structure AncS (w W : World) (H keep num : Nat) (j : Nat) (A : Option Addr) (c : Nat) (rs : List Nat) : Prop where
  hd : Blk W H THD #[.int .i64 (keep : Int), .int .i64 (num : Int), .slice A j c]
  ow : W.ownsRow w.heap.size TIN 1 (.slice A j c) j (ri rs)
  ln : rs.length = j
  ex : Ext w W
  ge : w.heap.size ≤ H
theorem AncS.alloc {w W : World} {H keep num j : Nat} {A : Option Addr} {c : Nat} {rs : List Nat} (h : AncS w W H keep num j A c rs) (o : Obj) : AncS w (W.alloc o) H keep num j A c rs :=
  ⟨h.hd.alloc _, own_below h.ow (Ext.allocR W o), h.ln, bt h.ex (Ext.allocR W o), h.ge⟩
theorem AncS.app {w W w6 : World} {H keep num j : Nat} {A A6 : Option Addr} {c c6 : Nat} {rs : List Nat} (h : AncS w W H keep num j A c rs) {y : Nat} (ho : w6.ownsRow w.heap.size TIN 1 (.slice A6 (j + 1) c6) (j + 1) (ri rs ++ [.int .i64 (y : Int)]))
    (hg : W.grownBy w6 (Value.slice A j c).ownBlock) (hb : Below w.heap.size W w6) : Blk w6 H THD #[.int .i64 (keep : Int), .int .i64 (num : Int), .slice A j c] ∧ AncS w (w6.setCell ⟨H, 2, none⟩ (.slice A6 (j + 1) c6)) H keep num (j + 1) A6 c6 (rs ++ [y]) := by
  have h1 : Blk w6 H THD #[.int .i64 (keep : Int), .int .i64 (num : Int), .slice A j c] := (hg.block H h.hd.lt (fun e => own_tag h.ow (show TIN ≠ THD by decide) H e.symm _ _ h.hd)).trans h.hd
  refine ⟨h1, h1.set_ 2 _, ?_, by rw [List.length_append, h.ln]; rfl, (Below.trans h.ex hb).setCell (p := ⟨H, 2, none⟩) h.ge _, h.ge⟩
  rw [ri_app]
  exact own_far ho (p := ⟨H, 2, none⟩) h1 (by decide) _
theorem ext_cell {w w' : World} (hh : Ext w w') {p : Addr} {v : Value} (hc : w.cell? p = some v) : w'.cell? p = some v := (Below.cell hh (World.block_lt_of_cell? w _ hc)).trans hc
theorem bk_le {B : Nat → Nat} {m : Nat} (hB : ∀ g, B g ≤ m) (t : MT) : t.bk B ≤ m := by
  cases t with
  | nil => exact Nat.zero_le _
  | node g k v l r => exact hB g
set_option maxHeartbeats 6400000 in
set_option maxRecDepth 100000 in
theorem ranchor_any {F : Nat → Prop} (s d keep : Nat) (A0 : Option Addr) (m0 c0 : Nat) (br : Bool) (B : Nat → Nat) (Q : Nat → Prop) (vs : List (Nat × MT)) (bl : List (List (List Nat))) (left : Nat) (w : World)
    (hs : Blk w s TSE #[.pointer (some ⟨d, 0, none⟩), .int .i64 (keep : Int), .slice A0 m0 c0, .bool br]) (hd : DW F w d bl false left) (hF : ∀ b, w.heap.size ≤ b → F b) (hFs : ¬ F s)
    (A : Option Addr) (m c : Nat) (hv : Rv w 2 A m c (vc vs)) (hm1 : 1 ≤ m) (hm2 : m ≤ 20) (num : Nat) (t0 : MT) (h0 : vs[0]? = some (num, t0)) (hnl : num ≤ 1000000000)
    (ht : ∀ v ∈ vs, TrW w B Q v.2) (hB : ∀ g, B g ≤ 4096) (hk : keep ≤ 1000) (h2 : 2 ≤ bl.length) (hfew : ∀ k, (bl.getD k []).length ≤ 100000) (r : Dst) (hr : wrA [(num % 2, blkB (rootB keep num (rtB B vs)))] bl left = r) :
    Calls Try.prog 55 #[.pointer (some ⟨s, 0, none⟩), .slice A m c] w fun e w' => e = .returned (.int .i64 (erD r)) ∧ AncE F w w' d r := by
  have hml : vs.length = m := by have := hv.len; rw [vc_len] at this; omega
  have hm0 : 0 < m := hm1
  have hle := hv.le
  have hcp := hv.cap
  have HV := Lib.hid hv
  have HS := Lib.hid hs
  have HD := Lib.hid hd
  have HF := Lib.hid hF
  have HFS := Lib.hid hFs
  have HML := Lib.hid hml
  have HT := Lib.hid ht
  have HB := Lib.hid hB
  have H2 := Lib.hid h2
  have HFW := Lib.hid hfew
  have HR := Lib.hid hr
  obtain ⟨b, o, rfl, hc⟩ := hv.at_ hm1
  have k0 := hc 0 (.int .i64 (num : Int)) (by
    obtain ⟨q1, _⟩ := vc_at vs 0 (by omega)
    have e : vs[0] = (num, t0) := by
      have := List.getElem?_eq_getElem (l := vs) (i := 0) (by omega)
      rw [h0] at this
      injection this with this
      exact this.symm
    rw [e] at q1
    exact q1)
  rw [Nat.add_zero] at k0
  have kk := fun w' (hh : Ext w w') => ext_cell hh k0
  have ks := fun w' (hh : Ext w w') => (HS.out.below hh).cells
  simp only [cellsAre, Nat.zero_add, Nat.reduceAdd, and_true] at ks
  have hst : Ext w w.drew := Ext.drew _
  clear hv hs hd hF hFs hml ht hB h2 hfew hr h0 hc k0
  go_enter Try.func55, Try.ntmps55
  go_upto_region 1 with fail
  refine wp_region_adv 10 [⟨9, 5, THD, #[.int .i64 0, .int .i64 0, .slice none 0 0]⟩] [(0, true, some 10, none), (1, true, some 11, none), (2, true, some 12, none), (3, true, some 13, none), (4, true, some 14, none), (5, true, some 15, none), (6, true, some 16, none), (7, true, some 17, none), (8, true, some 18, none)] (by kernel_rfl) (by kernel_rfl) (by kernel_rfl) (by intro it hit; (repeat (rcases List.mem_cons.1 hit with rfl | hit; (focus (intro o ho ev w; injection ho with ho; subst ho; kernel_rfl)))); cases hit) (fun _ _ _ _ _ => ⟨fun h => h, fun h => h⟩) hst ?_
  repeat (first | (refine wpSeq_pure (v := ?_) rfl ?_ ?_; rotate_left 1; (focus (intro wq_ hSq_; (try dsimp only at hSq_); go_simp; (try with_reducible rfl); done)); (try simp only [Act.put, List.setIfInBounds_toArray, List.set_cons_zero, List.set_cons_succ])) | (refine wpSeq_pureG (v := ?_) rfl rfl ?_ ?_; rotate_left 1; (focus (intro wq_ hSq_; (try dsimp only at hSq_); go_simp; (try with_reducible rfl); done)); (try simp only [Act.put, List.setIfInBounds_toArray, List.set_cons_zero, List.set_cons_succ])) | (refine wpSeq_off rfl rfl ?_; (try simp only [Act.put, List.setIfInBounds_toArray, List.set_cons_zero, List.set_cons_succ])) | (refine wpSeq_offU rfl ?_; (try simp only [Act.put, List.setIfInBounds_toArray, List.set_cons_zero, List.set_cons_succ])))
  intro wz gz sz_
  (try simp only [endJ, List.drop_succ_cons, List.drop_zero])
  intro R1 hr1 hu_ hB1
  (try simp only [endJ, Act.put, ptr, List.setIfInBounds_toArray, List.set_cons_zero, List.set_cons_succ])
  clear hu_
  have kR := hB1.cells
  have kf := hB1.free
  simp only [cellsAre, Nat.zero_add, Nat.reduceAdd, and_true] at kR
  have HB1 := Lib.hid hB1
  have SZ := Lib.hid sz_
  have HR1 := Lib.hid hr1
  clear kk ks hst gz sz_ hB1 hr1
  go_upto_region 2 with fail
  refine wp_world (fun W => AncS w W R1 keep num 0 none 0 []) ⟨((HB1.out.set_ 0 _).set_ 1 _).set_ 2 _, World.ownsRow_nil _ _ _ _, rfl, ((SZ.out.setCell (p := ⟨R1, 0, none⟩) HR1.out _).setCell (p := ⟨R1, 1, none⟩) HR1.out _).setCell (p := ⟨R1, 2, none⟩) HR1.out _, HR1.out⟩ ?_
  clear kR kf HB1 SZ HR1
  rintro W0 hw0
  have HW0 := Lib.hid hw0
  clear hw0
  go_wp2_with fail
  go_loopw [21] (fun i wr => ∃ (j : Nat) (A5 : Option Addr) (c5 : Nat), j ≤ m ∧ i = .int .i64 (j : Int) ∧ AncS w wr R1 keep num j A5 c5 ((rtB B vs).take j)) (fun i _ => m - (intOf i).toNat)
  case atStart => exact ⟨0, none, 0, by omega, rfl, HW0.out⟩
  case round =>
    clear HW0
    obtain ⟨j, A5, c5, hj, rfl, hw⟩ := hrel
    have HW := Lib.hid hw
    by_cases hjm : j < m
    · have pj : (j : Int) < (m : Int) := by omega
      have hjv : j < vs.length := by rw [HML.out]; exact hjm
      obtain ⟨b', o', hbo, hc⟩ := (HV.out.below hw.ex).at_ (by omega)
      injection hbo with hbo
      injection hbo with hbo hoo
      subst hbo hoo
      obtain ⟨c1, c2⟩ := vc_at vs j hjv
      have k1 := hc _ _ c1
      have k2 := hc _ _ c2
      rw [← Nat.add_assoc] at k2
      have ht := (HT.out _ (List.getElem_mem hjv)).below hw.ex
      have HN := Lib.hid (show (rtB B vs).take (j + 1) = (rtB B vs).take j ++ [(vs[j]).2.bk B] by
        unfold rtB
        rw [List.take_succ_eq_append_getElem (by rw [List.length_map]; exact hjv), List.getElem_map])
      obtain ⟨v, hv⟩ : ∃ v, vs[j] = v := ⟨_, rfl⟩
      rw [hv] at k1 k2 ht HN
      obtain ⟨v1, v2⟩ := v
      clear hc c1 c2 hv hjv hw
      cases v2 with
      | nil =>
        have k2' : wr.cell? ⟨b, o + j * 2 + 1, none⟩ = some (.pointer none) := k2
        have HN2 := Lib.hid (show (rtB B vs).take (j + 1) = (rtB B vs).take j ++ [0] from HN.out)
        clear k2 ht HN
        go_upto_region 8 with fail
        refine wp_world (fun W => AncS w W R1 keep num j A5 c5 ((rtB B vs).take j)) (HW.out.alloc _) ?_
        clear k1
        rintro W1 hw1
        have kR := hw1.hd.cells
        have fR := hw1.hd.free 2
        have hRl := hw1.hd.lt
        have hge := hw1.ge
        have HW1 := Lib.hid hw1
        have hsz1 := Ext.size hw1.ex
        simp only [cellsAre, Nat.zero_add, Nat.reduceAdd, and_true] at kR
        clear hw1
        go_wp2_with (at_builtin; refine wpl_appR TIS TIN (.int .i64 0) 1 8 in_info Try.underlying109 rfl (by omega) (by omega) rfl _ _ rfl w.heap.size (.slice A5 j c5) j (ri ((rtB B vs).take j)) rfl (HW1.out.alloc (.cells #[.int .i64 ((0 : Nat) : Int)] TIN)).ow (some ⟨W1.heap.size, 0, none⟩) 1 1 [.int .i64 ((0 : Nat) : Int)] rfl (rv_lit TIN 1 #[.int .i64 ((0 : Nat) : Int)] 1 (by omega) rfl) (fun u hu => by rw [List.mem_singleton.1 hu]; rfl) (by omega) (by omega) (by simp; omega) ?_; intro v6 w6 o6 g6 b6; obtain ⟨A6, c6, ev, _⟩ := own_rv o6; subst ev; have hap := (HW1.out.alloc (.cells #[.int .i64 ((0 : Nat) : Int)] TIN)).app o6 g6 b6; have k6 := hap.1.cells; have f6 := hap.1.free 2; have HAP := Lib.hid hap.2; simp only [cellsAre, Nat.zero_add, Nat.reduceAdd, and_true] at k6; clear o6 g6 b6 hap)
        go_roundw
        case rel => exact ⟨j + 1, A6, c6, by omega, by go_num, by rw [HN2.out]; exact HAP.out⟩
        case measure => simp [intOf]; omega
      | node gc kc vc lc rc =>
        rw [MT.ad_node] at k2
        have cc := ht.1.cells
        have hgc := ht.1.lt
        simp only [cellsAre, Nat.zero_add, Nat.reduceAdd, and_true] at cc
        have HN2 := Lib.hid (show (rtB B vs).take (j + 1) = (rtB B vs).take j ++ [B gc] from HN.out)
        clear ht HN
        go_upto_region 8 with fail
        refine wp_world (fun W => AncS w W R1 keep num j A5 c5 ((rtB B vs).take j)) (HW.out.alloc _) ?_
        clear k1
        rintro W1 hw1
        have kR := hw1.hd.cells
        have fR := hw1.hd.free 2
        have hRl := hw1.hd.lt
        have hge := hw1.ge
        have HW1 := Lib.hid hw1
        have hsz1 := Ext.size hw1.ex
        simp only [cellsAre, Nat.zero_add, Nat.reduceAdd, and_true] at kR
        clear hw1
        go_wp2_with (at_builtin; refine wpl_appR TIS TIN (.int .i64 0) 1 8 in_info Try.underlying109 rfl (by omega) (by omega) rfl _ _ rfl w.heap.size (.slice A5 j c5) j (ri ((rtB B vs).take j)) rfl (HW1.out.alloc (.cells #[.int .i64 (((B gc) : Nat) : Int)] TIN)).ow (some ⟨W1.heap.size, 0, none⟩) 1 1 [.int .i64 (((B gc) : Nat) : Int)] rfl (rv_lit TIN 1 #[.int .i64 (((B gc) : Nat) : Int)] 1 (by omega) rfl) (fun u hu => by rw [List.mem_singleton.1 hu]; rfl) (by omega) (by omega) (by simp; omega) ?_; intro v6 w6 o6 g6 b6; obtain ⟨A6, c6, ev, _⟩ := own_rv o6; subst ev; have hap := (HW1.out.alloc (.cells #[.int .i64 (((B gc) : Nat) : Int)] TIN)).app o6 g6 b6; have k6 := hap.1.cells; have f6 := hap.1.free 2; have HAP := Lib.hid hap.2; simp only [cellsAre, Nat.zero_add, Nat.reduceAdd, and_true] at k6; clear o6 g6 b6 hap)
        go_roundw
        case rel => exact ⟨j + 1, A6, c6, by omega, by go_num, by rw [HN2.out]; exact HAP.out⟩
        case measure => simp [intOf]; omega
    · obtain rfl : j = m := by omega
      have HWE := Lib.hid (show AncS w wr R1 keep num j A5 c5 (rtB B vs) by
        have h := hw
        rw [List.take_of_length_le (by unfold rtB; rw [List.length_map, HML.out]; exact Nat.le_refl _)] at h
        exact h)
      have kh := fun w' (hh : Ext wr w') => (HWE.out.hd.below hh).cells
      have ks := fun w' (hh : Ext wr w') => (HS.out.below (bt HWE.out.ex hh)).cells
      simp only [cellsAre, Nat.zero_add, Nat.reduceAdd, and_true] at ks kh
      have hst : Ext wr wr.drew := Ext.drew _
      obtain ⟨p, hp⟩ : ∃ p, num % 2 = p := ⟨_, rfl⟩
      have hp2 : p < 2 := by omega
      have hm1' : (num : Int) % 2 = (p : Int) := by omega
      have hm2' : (num : Int).tmod 2 = (p : Int) := by rw [Int.tmod_eq_emod_of_nonneg (by omega)]; omega
      have HP := Lib.hid hp
      obtain ⟨bs, hbs⟩ : ∃ bs, blkB (rootB keep num (rtB B vs)) = bs := ⟨_, rfl⟩
      have HBS := Lib.hid hbs
      clear hw hp hbs
      go_upto_region 10 with fail
      refine wp_region_adv 9 [] [(0, true, some 40, none), (1, true, some 41, none), (2, true, some 42, none), (3, true, some 43, none), (4, true, some 44, none), (5, true, some 45, none), (6, true, some 46, none), (7, true, some 47, none), (8, false, some 48, none)] (by kernel_rfl) (by kernel_rfl) (by kernel_rfl) (by intro it hit; (repeat (rcases List.mem_cons.1 hit with rfl | hit; (focus (intro o ho ev w; injection ho with ho; subst ho; kernel_rfl)))); cases hit) (fun _ _ _ _ _ => ⟨fun h => h, fun h => h⟩) hst ?_
      repeat (first | (refine wpSeq_pure (v := ?_) rfl ?_ ?_; rotate_left 1; (focus (intro wq_ hSq_; (try dsimp only at hSq_); go_simp; (try with_reducible rfl); done)); (try simp only [Act.put, List.setIfInBounds_toArray, List.set_cons_zero, List.set_cons_succ])) | (refine wpSeq_pureG (v := ?_) rfl rfl ?_ ?_; rotate_left 1; (focus (intro wq_ hSq_; (try dsimp only at hSq_); go_simp; (try with_reducible rfl); done)); (try simp only [Act.put, List.setIfInBounds_toArray, List.set_cons_zero, List.set_cons_succ])) | (refine wpSeq_off rfl rfl ?_; (try simp only [Act.put, List.setIfInBounds_toArray, List.set_cons_zero, List.set_cons_succ])) | (refine wpSeq_offU rfl ?_; (try simp only [Act.put, List.setIfInBounds_toArray, List.set_cons_zero, List.set_cons_succ])))
      first | refine wpSeq_call rfl (fun u1 g1 s1 K hK => ?_) | refine wpSeq_callG rfl rfl (fun u1 g1 s1 K hK => ?_)
      go_simp
      refine (rhead_any keep num A5 j c5 (rtB B vs) u1 (own_rvv (own_below HWE.out.ow s1)) hk (by omega) (by omega) (fun x hx => by
        unfold rtB at hx
        obtain ⟨v, _, rfl⟩ := List.mem_map.1 hx
        exact Nat.le_trans (bk_le HB.out _) (by omega))).mono ?_
      rintro e y1 ⟨z1, rfl, ⟨A1, c1, rfl, ho1⟩, b1⟩
      rw [HBS.out] at ho1
      (try go_wp2_with fail)
      refine hK.out _ _ b1 ?_
      clear hK K
      (try simp only [Act.put, List.setIfInBounds_toArray, List.set_cons_zero, List.set_cons_succ])
      repeat (first | (refine wpSeq_pure (v := ?_) rfl ?_ ?_; rotate_left 1; (focus (intro wq_ hSq_; (try dsimp only at hSq_); go_simp; (try with_reducible rfl); done)); (try simp only [Act.put, List.setIfInBounds_toArray, List.set_cons_zero, List.set_cons_succ])) | (refine wpSeq_pureG (v := ?_) rfl rfl ?_ ?_; rotate_left 1; (focus (intro wq_ hSq_; (try dsimp only at hSq_); go_simp; (try with_reducible rfl); done)); (try simp only [Act.put, List.setIfInBounds_toArray, List.set_cons_zero, List.set_cons_succ])) | (refine wpSeq_off rfl rfl ?_; (try simp only [Act.put, List.setIfInBounds_toArray, List.set_cons_zero, List.set_cons_succ])) | (refine wpSeq_offU rfl ?_; (try simp only [Act.put, List.setIfInBounds_toArray, List.set_cons_zero, List.set_cons_succ])))
      intro wz gz sz_
      (try simp only [endJ, List.drop_succ_cons, List.drop_zero])
      have HD5 := Lib.hid (HD.out.ext (bt HWE.out.ex sz_))
      have HO5 := Lib.hid (own_lower (own_below ho1 gz) (Nat.zero_le _))
      have HX5 := Lib.hid (bt HWE.out.ex sz_)
      clear ks kh hst s1 g1 b1 ho1 gz sz_ HW HWE hm1' hm2'
      obtain ⟨dn, hdn⟩ : ∃ dn, decide (left = 1) = dn := ⟨_, rfl⟩
      obtain ⟨er, her⟩ : ∃ er : Int, (if left = 1 then (9 : Int) else 0) = er := ⟨_, rfl⟩
      have HDN := Lib.hid hdn
      have HER := Lib.hid her
      clear hdn her
      go_wp2_with fail
      refine (rwrite_ok HD5.out (fun b hb => HF.out b (Nat.le_trans (Ext.size HX5.out) hb)) (k := p) (by have := H2.out; omega) HO5.out (by have := HFW.out p; omega)).mono ?_
      rintro e w5 ⟨rfl, hd5, hc5⟩
      rw [HDN.out] at hd5
      rw [HER.out]
      have HD6 := Lib.hid (show DW F w5 d (putB bl (p, bs)) dn (left - 1) from hd5)
      have HC6 := Lib.hid ((Chg.ext HX5.out).trans hc5)
      clear hd5 hc5
      by_cases hl1 : left = 1
      · have e1 : er = 9 := by rw [← HER.out, if_pos hl1]
        have e2 : dn = true := by rw [← HDN.out, decide_eq_true hl1]
        have HEQ2 := Lib.hid (show r = ⟨putB bl (p, bs), true, 0⟩ by rw [← HR.out, HBS.out, HP.out]; unfold wrA; rw [if_pos hl1])
        subst e1 e2 hl1
        go_wp2
        go_returns
        rw [HEQ2.out]
        exact ⟨rfl, HD6.out, HC6.out⟩
      · have e1 : er = 0 := by rw [← HER.out, if_neg hl1]
        have e2 : dn = false := by rw [← HDN.out, decide_eq_false hl1]
        obtain ⟨lf, hlf⟩ : ∃ lf, left - 1 = lf := ⟨_, rfl⟩
        have HEQ2 := Lib.hid (show r = ⟨if lf = 1 then putB bl (p, bs) else safeB (putB bl (p, bs)), decide (lf = 1), lf - 1⟩ by
          rw [← HR.out, HBS.out, HP.out, ← hlf]
          show (if left = 1 then _ else _) = _
          rw [if_neg hl1]
          rfl)
        subst e1 e2
        rw [hlf] at HD6
        have ks := (HC6.out.blk HS.out (fun hX => HFS.out hX.1)).cells
        simp only [cellsAre, Nat.zero_add, Nat.reduceAdd, and_true] at ks
        clear hl1 hlf
        go_wp2_with fail
        refine (rsync_ok HD6.out (fun b hb => HF.out b (Nat.le_trans HC6.out.size hb))).mono ?_
        rintro e w7 ⟨rfl, hd7, hc7⟩
        have HZ := Lib.hid (And.intro hd7 (HC6.out.trans hc7))
        clear hd7 hc7
        obtain ⟨er, her⟩ : ∃ er : Int, (if lf = 1 then (9 : Int) else 0) = er := ⟨_, rfl⟩
        have HER2 := Lib.hid her
        rw [her]
        clear her
        go_wp2
        go_returns
        rw [HEQ2.out]
        exact ⟨by rw [← HER2.out]; unfold erD; by_cases hl1 : lf = 1 <;> simp [hl1], HZ.out.1, HZ.out.2⟩
end Go.Proofs.Tb
/- Contracts of slices.Grow and slices.Concat at versions. -/
namespace Go.Proofs.Tb
open Go.Maps Go.RowKit Go.Lib
attribute [local go_sem] cell_set_same neqMapL

abbrev TVV : TypeId := 144
theorem ve_info : (Try.prog.info? TVE).map (fun i => (i.zero, i.size, i.bytes)) = some (some (.agg #[.int .i64 0, .pointer none]), 2, 16) := by kernel_rfl
theorem own_take {base : Nat} {w : World} {T : TypeId} {k n c : Nat} {A : Option Addr} {xs : List Value} (h : w.ownsRow base T k (.slice A n c) n xs) {n' : Nat} (hn : n' ≤ n) : w.ownsRow base T k (.slice A n' c) n' (xs.take (n' * k)) := by
  have hm : n' * k ≤ n * k := Nat.mul_le_mul_right k hn
  refine ⟨by rw [List.length_take, h.1]; omega, ?_⟩
  rcases h.2 with ⟨e, h0⟩ | ⟨g, cap, cur, e, h1, h2, h3, h4, h5, h6⟩
  · injection e with e1 _ e3
    subst e1 e3 h0
    obtain rfl : n' = 0 := by omega
    exact Or.inl ⟨rfl, rfl⟩
  · injection e with e1 _ e3
    subst e1 e3
    exact Or.inr ⟨g, c, cur, rfl, h1, h2, by omega, h4, h5, by rw [← h6, List.take_take, Nat.min_eq_left hm]⟩
set_option maxHeartbeats 1600000 in
set_option maxRecDepth 100000 in
theorem rgrow_any (k : Nat) (hk : 1 ≤ k) (hk2 : k ≤ 100000) (w : World) :
    Calls Try.prog 84 #[.slice none 0 0, .int .i64 (k : Int)] w (Ret (fun v w' => ∃ A c, v = .slice A 0 c ∧ w'.ownsRow w.heap.size TVE 2 (.slice A 0 c) 0 []) w) := by
  obtain ⟨i0, hi, hz0, hz1, hz2⟩ := info_parts ve_info
  have hr := fun ty => run_append_nil_zeros (P := Try.prog) (ty := ty) w TVS TIN TVE i0 _ .i64 .i64 Try.underlying102 Try.underlying3 hi hz0 k hk (by rw [hz1]; omega) (by omega) (by rw [hz2]; omega)
  have hge := grownCap_ge w k 0 TVE
  have hcm : grownCap w k 0 TVE ≤ maxLen := grownCap_le_maxLen w k 0 TVE (by unfold maxLen; omega)
  obtain ⟨C, hC⟩ : ∃ C, grownCap w k 0 TVE = C := ⟨_, rfl⟩
  rw [hC] at hge hcm
  simp only [hC] at hr
  obtain ⟨cs, hcs⟩ : ∃ cs, Builtin.zeroCells (Value.agg #[.int .i64 0, .pointer none]).cells k ++ Builtin.zeroCells (Value.agg #[.int .i64 0, .pointer none]).cells (C - k) = cs := ⟨_, rfl⟩
  have hsz : cs.size = C * 2 := by
    rw [← hcs, Array.size_append, size_zeroCells, size_zeroCells]
    show k * 2 + (C - k) * 2 = _
    omega
  simp only [hcs] at hr
  have HO := Lib.hid (show (w.drew.alloc (.cells cs TVE)).ownsRow w.heap.size TVE 2 (.slice (some ⟨w.heap.size, 0, none⟩) 0 C) 0 [] from
    ⟨rfl, Or.inr ⟨w.heap.size, C, cs, rfl, Nat.le_refl _, heap_alloc_new w.drew _, Nat.zero_le _, hcm, hsz, by simp⟩⟩)
  have HX := Lib.hid (show Ext w (w.drew.alloc (.cells cs TVE)) from bt (Ext.drew w) (Ext.allocR _ _))
  unfold maxLen at hcm
  have p1 : ¬ (k : Int) < 0 := by omega
  have p2 : (0 : Int) < (k : Int) := by omega
  clear hC hcs hsz hi hz0 hz1 hz2
  go_enter Try.func84, Try.ntmps84
  go_wp2_with (at_builtin; refine Go.Lib.wpList_append_run _ rfl _ _ _ _ rfl (.slice none 0 0) (.int .i64 (k : Int)) rfl rfl _ _ (hr _) ?_)
  go_returns
  exact ⟨_, rfl, ⟨_, _, rfl, HO.out⟩, HX.out⟩
theorem vc_app (a b : List (Nat × MT)) : vc (a ++ b) = vc a ++ vc b := by unfold vc; rw [List.map_append, List.flatten_append]
theorem vc_one (l : List (Nat × MT)) : ∀ u ∈ vc l, u.oneCell' = true := fun u hu => by
  unfold vc at hu
  rw [List.mem_flatten] at hu
  obtain ⟨x, hx, hu⟩ := hu
  obtain ⟨p, _, rfl⟩ := List.mem_map.1 hx
  simp only [List.mem_cons, List.not_mem_nil, or_false] at hu
  rcases hu with rfl | rfl <;> rfl
/-- A row of versions. -/
def OwS (base : Nat) (w : World) (v : Value) (l : List (Nat × MT)) : Prop := w.ownsRow base TVE 2 v l.length (vc l)
theorem wpl_appV {ops : Array Oper} {rest : List Oper} {o : Oper} {a : Act} {Q : Exit → Act → World → Prop} {w : World} (hgd : o.guard = none) (s x : Operand)
    (ho : o.op = .call { callee := .builtin .append, args := #[s, x], argTypes := #[TVS, TVS] }) (base : Nat) (v : Value) (l : List (Nat × MT)) (hs : a.eval s = v) (hown : OwS base w v l)
    (A : Option Addr) (m c : Nat) (l2 : List (Nat × MT)) (hx : a.eval x = .slice A m c) (hr : Rv w 2 A m c (vc l2)) (hn : l.length ≤ 1000000) (hm : m ≤ 1000000) (hbase : base ≤ w.heap.size)
    (h : ∀ A' n' c' w', OwS base w' (.slice A' n' c') (l ++ l2) → Below base w w' → w.grownBy w' v.ownBlock → wpList Try.prog ops Q rest (a.put o.dst (.slice A' n' c')) w') : wpList Try.prog ops Q (o :: rest) a w := by
  have hml : l2.length = m := by have := hr.len; rw [vc_len] at this; omega
  refine wpl_appR TVS TVE _ 2 16 ve_info Try.underlying102 rfl (by omega) (by omega) hgd s x ho base v l.length (vc l) hs hown A m c (vc l2) hx hr (vc_one _) hn hm hbase ?_
  intro v3 w3 hrow hgr hbel
  have hO : OwS base w3 v3 (l ++ l2) := by
    unfold OwS
    rw [List.length_append, hml, vc_app]
    exact hrow
  obtain ⟨A', c', e, _⟩ := own_rv hO
  subst e
  exact h _ _ _ _ hO hbel hgr
def CnL (n1 n2 : Nat) (s i : Value) : Prop := (s = .int .i64 0 ∧ i = .int .i64 0) ∨ (s = .int .i64 (n1 : Int) ∧ i = .int .i64 1) ∨ (s = .int .i64 ((n1 + n2 : Nat) : Int) ∧ i = .int .i64 2)
def CnW (w wr : World) (v : Value) (l : List (Nat × MT)) : Prop := OwS w.heap.size wr v l ∧ Ext w wr
set_option maxHeartbeats 3200000 in
set_option maxRecDepth 100000 in
theorem rconcat_any (b o c : Nat) (A1 A2 : Option Addr) (n1 c1 n2 c2 : Nat) (l1 l2 : List (Nat × MT)) (w : World) (h : Rv w 1 (some ⟨b, o, none⟩) 2 c [.slice A1 n1 c1, .slice A2 n2 c2]) (h1 : Rv w 2 A1 n1 c1 (vc l1)) (h2 : Rv w 2 A2 n2 c2 (vc l2)) (hn : 1 ≤ n1) (hn1 : n1 ≤ 1000) (hn2 : n2 ≤ 1000) :
    Calls Try.prog 53 #[.slice (some ⟨b, o, none⟩) 2 c] w (Ret (fun v w' => OwS w.heap.size w' v (l1 ++ l2)) w) := by
  have hl1 : l1.length = n1 := by have := h1.len; rw [vc_len] at this; omega
  have hl2 : l2.length = n2 := by have := h2.len; rw [vc_len] at this; omega
  obtain ⟨b', o', e, hc⟩ := h.at_ (by omega)
  injection e with e
  injection e with e1 e2
  subst e1 e2
  have k0 := hc 0 _ rfl
  have k1 := hc 1 _ rfl
  rw [Nat.add_zero] at k0
  have hle := h.le
  have hcp := h.cap
  have H1 := Lib.hid h1
  have H2 := Lib.hid h2
  have HL1 := Lib.hid hl1
  have HL2 := Lib.hid hl2
  have K0 := Lib.hid k0
  have K1 := Lib.hid k1
  have hle1 := h1.le
  have hle2 := h2.le
  have hcp1 := h1.cap
  have hcp2 := h2.cap
  have w1 : IntKind.i64.wrap (n1 : Int) = (n1 : Int) := IntWalk.i64_in _ (by omega)
  clear h h1 h2 hl1 hl2 hc
  go_enter Try.func53, Try.ntmps53
  go_wp2_with fail
  go_loop [3, 11] (CnL n1 n2) (fun _ i => 2 - (intOf i).toNat)
  case atStart => exact Or.inl ⟨rfl, rfl⟩
  case round =>
    rcases hrel with ⟨rfl, rfl⟩ | ⟨rfl, rfl⟩ | ⟨rfl, rfl⟩
    · go_wp2_with fail
      go_round
      case rel => exact Or.inr (Or.inl ⟨rfl, rfl⟩)
      case measure => simp [intOf]
    · have w2 : IntKind.i64.wrap ((n1 : Int) + (n2 : Int)) = ((n1 + n2 : Nat) : Int) := by rw [IntWalk.i64_in _ (by omega)]; omega
      have p1 : ¬ ((n1 + n2 : Nat) : Int) < 0 := by omega
      go_wp2_with fail
      go_round
      case rel => exact Or.inr (Or.inr ⟨by go_num, rfl⟩)
      case measure => simp [intOf]
    · obtain ⟨q, hq⟩ : ∃ q, n1 + n2 = q := ⟨_, rfl⟩
      rw [hq]
      have hq1 : 1 ≤ q := by omega
      have hq2 : q ≤ 100000 := by omega
      clear hq
      go_wp2_with fail
      refine (rgrow_any q hq1 hq2 w).mono ?_
      rintro e w3 ⟨z3, rfl, ⟨A3, c3, rfl, ho3⟩, b3⟩
      have HO3 := Lib.hid (show OwS w.heap.size w3 (.slice A3 0 c3) [] from ho3)
      have HX3 := Lib.hid b3
      have hle3 := (own_rvv ho3).le
      have hcp3 := (own_rvv ho3).cap
      clear ho3 b3
      go_wp2_with fail
      go_loopw [6, 27] (fun v i wr => ∃ (j : Nat) (A : Option Addr) (n c : Nat), j ≤ 2 ∧ i = .int .i64 (j : Int) ∧ v = .slice A n c ∧ CnW w wr (.slice A n c) (([l1, l2].take j).flatten)) (fun _ i _ => 2 - (intOf i).toNat)
      case atStart => exact ⟨0, A3, 0, c3, by omega, rfl, rfl, HO3.out, HX3.out⟩
      case round =>
        clear HO3 HX3 hle3 hcp3 k0 k1
        obtain ⟨j, A6, n6, c6, hj, rfl, rfl, hw⟩ := hrel
        have hln := (own_rvv hw.1).len
        have hle6 := (own_rvv hw.1).le
        have hcp6 := (own_rvv hw.1).cap
        have HW := Lib.hid hw
        obtain rfl | rfl | rfl : j = 0 ∨ j = 1 ∨ j = 2 := by omega
        · have k0 := ext_cell hw.2 K0.out
          clear hw hln
          go_wp2_with (at_builtin; refine wpl_appV rfl _ _ rfl w.heap.size (.slice A6 n6 c6) [] rfl HW.out.1 A1 n1 c1 l1 rfl (H1.out.below HW.out.2) (by simp) (by omega) (Ext.size HW.out.2) ?_; intro A7 n7 c7 w7 o7 b7 g7; have HZ := Lib.hid (show CnW w w7 (.slice A7 n7 c7) (([l1, l2].take (0 + 1)).flatten) from ⟨by have e : ([l1, l2].take (0 + 1)).flatten = [] ++ l1 := (by simp); rw [e]; exact o7, Below.trans HW.out.2 b7⟩); clear o7 b7 g7)
          go_roundw
          case rel => exact ⟨1, A7, n7, c7, by omega, rfl, rfl, HZ.out⟩
          case measure => simp [intOf]
        · have k1 := ext_cell hw.2 K1.out
          clear hw hln
          go_wp2_with (at_builtin; refine wpl_appV rfl _ _ rfl w.heap.size (.slice A6 n6 c6) l1 rfl (by have h := HW.out.1; have e : ([l1, l2].take 1).flatten = l1 := (by simp); rw [e] at h; exact h) A2 n2 c2 l2 rfl (H2.out.below HW.out.2) (by have := HL1.out; omega) (by omega) (Ext.size HW.out.2) ?_; intro A7 n7 c7 w7 o7 b7 g7; have HZ := Lib.hid (show CnW w w7 (.slice A7 n7 c7) (([l1, l2].take (1 + 1)).flatten) from ⟨by have e : ([l1, l2].take (1 + 1)).flatten = l1 ++ l2 := (by simp); rw [e]; exact o7, Below.trans HW.out.2 b7⟩); clear o7 b7 g7)
          go_roundw
          case rel => exact ⟨2, A7, n7, c7, by omega, rfl, rfl, HZ.out⟩
          case measure => simp [intOf]
        · clear hw hln
          go_wp2_with fail
          go_returns
          exact ⟨_, rfl, by have h := HW.out.1; have e : ([l1, l2].take 2).flatten = l1 ++ l2 := (by simp); rw [e] at h; exact h, HW.out.2⟩
end Go.Proofs.Tb
