/- Contract of changes: what leads from one tree to another one. -/
import Derived.Test.YtfljnfdeboibhaaGreatRpc
set_option linter.unusedVariables false
set_option linter.unusedSimpArgs false
namespace Go.Proofs.Tb
open Go.Maps Go.RowKit Go.Lib Go.Shelf
attribute [local go_sem] cell_set_same neqMapL binOp_string_geq' Oper.semAt_some

abbrev FPW : Nat := 100
theorem pwFn : Tryz.prog.funcs[FPW]? = some Tryz.f100 := Tryz.func100
/-- What changes' loops hold. -/
structure ChI (w : World) (Ha Hb Bo : Nat) (pa pb : Option Addr) (Ds : List Nat) (l : List Cg) (W : World) : Prop where
  ba : Blk W Ha TNP #[.pointer pa]
  bb : Blk W Hb TNP #[.pointer pb]
  ou : ∃ v, Blk W Bo TCS #[v] ∧ OwC w.heap.size W v l
  ex : Ext w W
  dd : ∀ D ∈ Ds, W.heap[D]? = some (.deferred (some []))
  lo : ∀ D ∈ Ds, w.heap.size ≤ D
theorem ChI.ext {w W W' : World} {Ha Hb Bo : Nat} {pa pb : Option Addr} {Ds : List Nat} {l : List Cg} (h : ChI w Ha Hb Bo pa pb Ds l W) (x : Ext W W') : ChI w Ha Hb Bo pa pb Ds l W' := by
  obtain ⟨v, h1, h2⟩ := h.ou
  exact ⟨h.ba.below x, h.bb.below x, ⟨v, h1.below x, own_below h2 x⟩, bt h.ex x, fun D hD => (x.block D (obj_lt (h.dd D hD))).trans (h.dd D hD), h.lo⟩
theorem ChI.push {w W : World} {Ha Hb Bo : Nat} {pa pb : Option Addr} {Ds : List Nat} {l : List Cg} {D : Nat} (h : ChI w Ha Hb Bo pa pb Ds l W) (hD : W.heap[D]? = some (.deferred (some []))) (hl : w.heap.size ≤ D) : ChI w Ha Hb Bo pa pb (D :: Ds) l W :=
  ⟨h.ba, h.bb, h.ou, h.ex, fun E hE => by
    rcases List.mem_cons.1 hE with rfl | hE
    · exact hD
    · exact h.dd E hE, fun E hE => by
    rcases List.mem_cons.1 hE with rfl | hE
    · exact hl
    · exact h.lo E hE⟩
theorem ChI.own {w : World} {Ha Hb Bo : Nat} {pa pb : Option Addr} {Ds : List Nat} (f : List Pr → List Cg) {B : Nat} (hB : w.heap.size ≤ B) (hD : ∀ D ∈ Ds, D < B) : OwnFrom B (fun pre W => ChI w Ha Hb Bo pa pb Ds (f pre) W) := fun s W W' row h hg hr => by
  obtain ⟨v, h1, h2⟩ := h.ou
  exact ⟨keepB hg hr h.ba, keepB hg hr h.bb, ⟨v, keepB hg hr h1, own_keep h2 fun g cs _ _ hb => (keepB hg hr hb).trans hb.symm⟩, Below.grown h.ex hg (Ext.size h.ex) (fun k e => Nat.le_trans hB (hr k e).1), fun D hD' => (hg.block D (obj_lt (h.dd D hD')) (fun e => by
    have h1 := (hr D e.symm).1
    have h2 := hD D hD'
    omega)).trans (h.dd D hD'), h.lo⟩
theorem ChI.app {w W w1 : World} {Ha Hb Bo : Nat} {pa pb : Option Addr} {Ds : List Nat} {l : List Cg} {c : Cg} {A0 A1 : Option Addr} {pl c0 c1 : Nat} (h : ChI w Ha Hb Bo pa pb Ds l W) (hO : Blk W Bo TCS #[.slice A0 pl c0]) (ho : OwC w.heap.size W (.slice A0 pl c0) l) (hpl : l.length = pl) (tmp : Obj)
    (o1 : w1.ownsRow w.heap.size TCG 3 (.slice A1 (pl + 1) c1) (pl + 1) (ccs l ++ ccs [c])) (g1 : (W.alloc tmp).grownBy w1 (Value.slice A0 pl c0).ownBlock) (hB : w.heap.size ≤ Bo) :
    Blk w1 Bo TCS #[.slice A0 pl c0] ∧ ChI w Ha Hb Bo pa pb Ds (l ++ [c]) (w1.setCell ⟨Bo, 0, none⟩ (.slice A1 (pl + 1) c1)) ∧ KeepsOthers W (w1.setCell ⟨Bo, 0, none⟩ (.slice A1 (pl + 1) c1)) ∧ KN W (w1.setCell ⟨Bo, 0, none⟩ (.slice A1 (pl + 1) c1)) := by
  have ho' := own_below ho (Ext.allocR W tmp)
  have hb1 : Blk w1 Bo TCS #[.slice A0 pl c0] := grow_blk g1 ho' (by decide) (hO.alloc tmp)
  have hh1 : Blk w1 Ha TNP #[.pointer pa] := grow_blk g1 ho' (by decide) (h.ba.alloc tmp)
  have hm1 : Blk w1 Hb TNP #[.pointer pb] := grow_blk g1 ho' (by decide) (h.bb.alloc tmp)
  have ne : ∀ {b : Nat} {T : TypeId} {cs : Array Value}, T ≠ TCS → Blk w1 b T cs → b ≠ Bo := fun {b T cs} hT hb e => by
    subst e
    unfold Blk at hb hb1
    rw [hb] at hb1
    injection hb1 with hb1
    injection hb1 with _ hb1
    exact hT hb1
  have hbel : Below w.heap.size W w1 := ((Below.refl _ W).alloc (Ext.size h.ex) tmp).grown g1 (Nat.le_trans (Ext.size h.ex) (by simp)) (own_geE ho')
  have hdd : ∀ D ∈ Ds, w1.heap[D]? = some (.deferred (some [])) := fun D hD => by
    have h1 : (W.alloc tmp).heap[D]? = some (.deferred (some [])) := (Below.heap_alloc W tmp D (obj_lt (h.dd D hD))).trans (h.dd D hD)
    refine (g1.block D (obj_lt h1) fun e => ?_).trans h1
    rcases ho'.2 with ⟨e2, _⟩ | ⟨q, cap, cur, e2, _, h2, _⟩
    · rw [e2] at e; cases e
    · rw [e2] at e
      simp only [Value.ownBlock, Option.some.injEq] at e
      subst e
      rw [h2] at h1
      cases h1
  refine ⟨hb1, ⟨hh1.far (p := ⟨Bo, 0, none⟩) (ne (by decide) hh1) _, hm1.far (p := ⟨Bo, 0, none⟩) (ne (by decide) hm1) _, ⟨_, hb1.set_ 0 _, ?_⟩, (Below.trans h.ex hbel).setCell (p := ⟨Bo, 0, none⟩) hB _, fun D hD => ?_, h.lo⟩, ?_, ?_⟩
  · unfold OwC
    rw [ccs_app, List.length_append, hpl]
    exact own_far o1 (p := ⟨Bo, 0, none⟩) hb1 (by decide) _
  · refine (Below.heap_setCell w1 ⟨Bo, 0, none⟩ _ D fun e => ?_).trans (hdd D hD)
    have h1 := hdd D hD
    rw [show D = Bo from e] at h1
    unfold Blk at hb1
    rw [hb1] at h1
    cases h1
  · refine (KeepsOthers.alloc W tmp).trans (KeepsOthers.trans (KeepsOthers.of_grownBy g1 fun j o e hj => ?_) (KeepsOthers.setCell _ _ _))
    rcases ho'.2 with ⟨e2, _⟩ | ⟨q, cap, cur, e2, _, h2, _⟩
    · rw [e2] at e; cases e
    · rw [e2] at e
      simp only [Value.ownBlock, Option.some.injEq] at e
      subst e
      rw [h2] at hj
      injection hj with hj
      subst hj
      rfl
  · intro b cs hb
    have h1 : Blk w1 b TNO cs := grow_blk g1 ho' (by decide) (Blk.alloc (w := W) hb tmp)
    exact h1.far (p := ⟨Bo, 0, none⟩) (ne (by decide) h1) _
theorem KO.ext {W W' : World} (x : Ext W W') : KeepsOthers W W' := ⟨Ext.size x, fun k o hk _ => (x.block k (obj_lt hk)).trans hk⟩
theorem gatB_snoc (a pre : List Pr) (p : Pr) : gatB a (pre ++ [p]) = gatB a pre ++ (if fndP a p.1 = some p.2 then [] else [⟨p.1, p.2, false⟩]) := by
  unfold gatB
  rw [List.filter_append, List.map_append]
  congr 1
  by_cases h : fndP a p.1 = some p.2 <;> simp [h]
theorem gatG_snoc (pre b : List Pr) (p : Pr) : gatG (pre ++ [p]) b = gatG pre b ++ (if fndP b p.1 = none then [⟨p.1, ByteArray.empty, true⟩] else []) := by
  unfold gatG
  rw [List.filter_append, List.map_append]
  congr 1
  by_cases h : fndP b p.1 = none <;> simp [h]
theorem gatB_len (a b : List Pr) : (gatB a b).length ≤ b.length := by
  unfold gatB
  rw [List.length_map]
  exact List.length_filter_le _ _
theorem gatG_len (a b : List Pr) : (gatG a b).length ≤ a.length := by
  unfold gatG
  rw [List.length_map]
  exact List.length_filter_le _ _
theorem geP_all (l : List Pr) : geP ⟨#[]⟩ l = l := List.filter_eq_self.2 fun p _ => by
  have e : sl p.1 ⟨#[]⟩ = false := by
    unfold sl
    rw [show (⟨#[]⟩ : Str).toList = [] by rw [ByteArray.toList, ByteArray.toList.loop]; rfl]
    cases p.1.toList <;> rfl
  rw [e]; rfl
/-- Behind the sort. -/
theorem ChI.sorted {w W W' : World} {Ha Hb Bo : Nat} {pa pb : Option Addr} {Ds : List Nat} {l d : List Cg} {v : Value} (h : ChI w Ha Hb Bo pa pb Ds l W) (hO : Blk W Bo TCS #[v]) (ho : OwC w.heap.size W v l) (hg : W.grownBy W' v.ownBlock) (hd : OwC w.heap.size W' v d) :
    ChI w Ha Hb Bo pa pb Ds d W' ∧ Blk W' Bo TCS #[v] := by
  have hO' : Blk W' Bo TCS #[v] := grow_blk hg ho (by decide) hO
  refine ⟨⟨grow_blk hg ho (by decide) h.ba, grow_blk hg ho (by decide) h.bb, ⟨v, hO', hd⟩, Below.grown h.ex hg (Ext.size h.ex) (own_geE ho), fun D hD => ?_, h.lo⟩, hO'⟩
  refine (hg.block D (obj_lt (h.dd D hD)) fun e => ?_).trans (h.dd D hD)
  rcases ho.2 with ⟨e2, _⟩ | ⟨q, cap, cur, e2, _, h2, _⟩
  · rw [e2] at e; cases e
  · rw [e2] at e
    simp only [Value.ownBlock, Option.some.injEq] at e
    subst e
    have := h.dd _ hD
    rw [h2] at this
    cases this
set_option maxHeartbeats 12800000 in
set_option maxRecDepth 100000 in
theorem rchanges_any {w : World} {B : Nat → Nat} (ta tb : MT) (hta : TrW w B (Pos B) ta) (htb : TrW w B (Pos B) tb) (sa : Srtd ta.er.prs) (sb : Srtd tb.er.prs) (na : ta.er.size ≤ 100000) (nb : tb.er.size ≤ 100000) :
    Calls Tryz.prog 78 #[.pointer ta.ad, .pointer tb.ad] w (Ret (fun z w' => ∃ l, Dif ta.er.prs tb.er.prs l ∧ OwC w.heap.size w' z l) w) := by
  have hro : Fence.wide.round = none := rfl
  have hd : Fence.wide.depth = none := rfl
  have hfn : ∀ f, Fence.wide.fn f := fun _ => trivial
  obtain ⟨i0, hi0, hz0, hz1, hz2⟩ := info_parts cg_info
  have HTA := Lib.hid hta
  have HTB := Lib.hid htb
  have HSA := Lib.hid sa
  have HSB := Lib.hid sb
  obtain ⟨pa, hpa⟩ : ∃ pa, ta.er.prs = pa := ⟨_, rfl⟩
  obtain ⟨pb, hpb⟩ : ∃ pb, tb.er.prs = pb := ⟨_, rfl⟩
  have HPA := Lib.hid hpa
  have HPB := Lib.hid hpb
  have nla : pa.length ≤ 100000 := by rw [← hpa, Tr.size_prs]; exact na
  have nlb : pb.length ≤ 100000 := by rw [← hpb, Tr.size_prs]; exact nb
  have HSP := Lib.hid (show Srtd pa ∧ Srtd pb by rw [← hpa, ← hpb]; exact ⟨sa, sb⟩)
  rw [hpa, hpb]
  clear hta htb sa sb hpa hpb na nb
  refine (callsIn_wide (n := 9)).1 ?_
  refine callsIn_of_wp_marks Tryz.func78 rfl (hfn _) ?_ hro
  simp only [Tryz.ntmps78, List.size_toArray, List.length_cons, List.length_nil, Nat.reduceAdd, Nat.reduceSub, Array.replicate_succ, Array.replicate_zero, List.push_toArray, List.append_toArray, List.nil_append, List.cons_append]
  gi_wp2
  obtain ⟨q0, hq0⟩ : ∃ q0, w.heap.size = q0 := ⟨_, rfl⟩
  obtain ⟨q1, hq1⟩ : ∃ q1, q0 + 1 = q1 := ⟨_, rfl⟩
  obtain ⟨q2, hq2⟩ : ∃ q2, q1 + 1 = q2 := ⟨_, rfl⟩
  have HQ := Lib.hid (show w.heap.size ≤ q2 by omega)
  have H0 : ChI w q0 q1 q2 ta.ad tb.ad [] [] (((w.alloc (.cells #[.pointer ta.ad] TNP)).alloc (.cells #[.pointer tb.ad] TNP)).alloc (.cells #[.slice none 0 0] TCS)) :=
    ⟨((Blk.new_ _ _ hq0).alloc _).alloc _, (Blk.new_ _ _ (by simp; omega)).alloc _, ⟨_, Blk.new_ _ _ (by simp; omega), World.ownsRow_nil _ _ _ _⟩, bt (Ext.allocR _ _) (bt (Ext.allocR _ _) (Ext.allocR _ _)), fun D hD => absurd hD (by simp), fun D hD => absurd hD (by simp)⟩
  simp only [hq0, hq1, hq2]
  obtain ⟨W0, hW0⟩ : ∃ W0, (((w.alloc (.cells #[.pointer ta.ad] TNP)).alloc (.cells #[.pointer tb.ad] TNP)).alloc (.cells #[.slice none 0 0] TCS)) = W0 := ⟨_, rfl⟩
  rw [hW0] at H0 ⊢
  have HI := Lib.hid H0
  clear H0 hW0 hq0 hq1 hq2
  refine (callsIn_wide.2 (rpairs_any tb.ad _ W0)).mono ?_
  rintro e w3 ⟨rfl, hw3⟩
  obtain ⟨p, hp⟩ : ∃ p, W0.heap.size = p := ⟨_, rfl⟩
  have x3 : Ext W0 w3 := by rw [hw3]; exact bt (Ext.allocR _ _) (Ext.allocR _ _)
  have hb1 : Blk w3 p TNP #[.pointer tb.ad] := by rw [hw3]; exact (Blk.new_ _ _ hp).alloc _
  have hb2 : Blk w3 (p + 1) TST #[.string ⟨#[]⟩] := by rw [hw3]; exact Blk.new_ _ _ (by simp [hp])
  have HI3 := Lib.hid (HI.out.ext x3)
  have k1 := hb1.cells
  have k2 := hb2.cells
  simp only [cellsAre, Nat.zero_add, Nat.reduceAdd, and_true] at k1 k2
  have HB := Lib.hid (And.intro hb1 hb2)
  rw [hp]
  clear hw3 hb1 hb2 x3 HI hp
  gi_wp2
  refine wpIn_rangeFunc_ownF hro (by omega) (gf := FPW) (lb := #[.pointer (some ⟨p, 0, none⟩), .pointer (some ⟨p + 1, 0, none⟩)]) rfl (hfn _) (enters_of pwFn (by kernel_rfl) rfl)
    (pairs_stops Fence.wide hd hfn hro 8 p (p + 1) B (Pos B) tb ⟨#[]⟩ w3 HB.out.1.lt HB.out.2.lt k1 k2 (HTB.out.below HI3.out.ex) HSB.out) (fun h k => KN.trans h k) (fun W l o o' _ ho hc _ => KN.put ho hc) (Below.refl _ _) (fun _ => rfl)
    (fun pre W => ChI w q0 q1 q2 ta.ad tb.ad [] (gatB pa pre) W) (fun _ _ _ => False) (ChI.own (fun pre => gatB pa pre) (Ext.size HI3.out.ex) (fun D hD => absurd hD (by simp))) (fun _ _ _ _ _ h _ _ => h.elim) HI3.out ?a1 ?assign ?body ?done ?stop
  case assign =>
    intro l x W K hK
    gi_wp2
    exact hK
  case stop =>
    rintro D c pre W hD hpre hX hK
    exact hX.elim
  case body =>
    rintro l pre x W hI hlen
    rw [geP_all, HPB.out] at hlen
    obtain ⟨xk, xv⟩ := x
    have HII := Lib.hid hI
    have ka := hI.ba.cells
    simp only [cellsAre, Nat.zero_add, Nat.reduceAdd, and_true] at ka
    have hgl : (gatB pa pre).length ≤ 100000 := by have := gatB_len pa pre; omega
    have HS := Lib.hid (gatB_snoc pa pre (xk, xv))
    obtain ⟨gl, hgle⟩ : ∃ gl, gatB pa pre = gl := ⟨_, rfl⟩
    rw [hgle] at HII HS hgl
    clear hI hlen hgle k1 k2
    gi_wp2
    refine (callsIn_wide.2 (rfind_any B (Pos B) xk ta W (HTA.out.below HII.out.ex) HSA.out)).mono ?_
    rintro e W2 ⟨z2, rfl, hf, b2⟩
    have HK := Lib.hid (And.intro (KO.ext b2) (KN.ext (A := W) (B := W2) b2))
    have HI2 := Lib.hid (HII.out.ext b2)
    clear b2 HII ka
    unfold FndR at hf
    rw [HPA.out] at hf
    rcases hf with ⟨rfl, hf⟩ | ⟨g, x, l', r', rfl, hf, hm⟩
    · have HE := Lib.hid (show gatB pa (pre ++ [(xk, xv)]) = gl ++ [⟨xk, xv, false⟩] by rw [HS.out, if_neg]; rw [fndP_none hf]; simp)
      clear hf
      obtain ⟨v0, hO, hrow⟩ := HI2.out.ou
      obtain ⟨A0, c0, rfl, hrv⟩ := own_rv hrow
      obtain ⟨pl, hpl⟩ : ∃ pl, gl.length = pl := ⟨_, rfl⟩
      have kO := hO.cells
      have fO := hO.free 0
      have hOl := hO.lt
      have hwl := Ext.size HI2.out.ex
      have hlc := hrv.le
      have hcc := hrv.cap
      simp only [cellsAre, Nat.zero_add, Nat.reduceAdd, and_true] at kO
      have HOO := Lib.hid hO
      have HRW := Lib.hid hrow
      have HPL := Lib.hid hpl
      rw [hpl] at kO hlc hgl
      clear hrv hO hrow hpl
      gi_wp2_with (gi_at_builtin; refine wpListIn_append_own _ rfl _ _ TCS rfl w.heap.size TCG i0 _ 3 40 Tryz.underlying24 hi0 hz0 hz1 hz2 rfl (by decide) (.slice A0 pl c0) pl (ccs gl) rfl (by have h1 := own_below HRW.out (Ext.allocR W2 (.cells #[.string xk, .string xv, .bool false] TCG)); rw [HPL.out] at h1; exact h1) ⟨W2.heap.size, 0, none⟩ 1 1 (ccs [⟨xk, xv, false⟩]) rfl rfl (((rv_lit (w := W2) TCG 3 #[.string xk, .string xv, .bool false] 1 (by omega) rfl).news (by omega)).2.2 _ rfl) (ccs_one _) (by unfold maxLen; omega) (by omega) (by simp; omega) ?_; intro v1 w1 o1 g1 _; obtain ⟨A1, c1, hv1', _⟩ := own_rv o1; subst hv1'; have hap := HI2.out.app (by have h1 := HOO.out; rw [HPL.out] at h1; exact h1) (by have h1 := HRW.out; rw [HPL.out] at h1; exact h1) HPL.out (.cells #[.string xk, .string xv, .bool false] TCG) o1 g1 HQ.out; have k1 := hap.1.cells; have f1 := hap.1.free 0; have HAP := Lib.hid hap.2; simp only [cellsAre, Nat.zero_add, Nat.reduceAdd, and_true] at k1; clear o1 g1 hap)
      exact ⟨HK.out.1.trans HAP.out.2.1, HK.out.2.trans HAP.out.2.2, by dsimp only; rw [HE.out]; exact HAP.out.1⟩
    · have hfn2 := fndP_some HSP.out.1 hm
      have kn := hf.1.cells
      simp only [cellsAre, Nat.zero_add, Nat.reduceAdd, and_true] at kn
      by_cases hx : x = xv
      · subst hx
        have HE := Lib.hid (show gatB pa (pre ++ [(xk, x)]) = gl by rw [HS.out, if_pos hfn2, List.append_nil])
        clear hf hm hfn2
        gi_wp2
        exact ⟨HK.out.1, HK.out.2, by dsimp only; rw [HE.out]; exact HI2.out⟩
      · have d2 : (x.toList == xv.toList) = false := str_beq_f hx
        have HE := Lib.hid (show gatB pa (pre ++ [(xk, xv)]) = gl ++ [⟨xk, xv, false⟩] by rw [HS.out, if_neg]; rw [hfn2]; exact fun e => hx (by injection e))
        clear hf hm hfn2 hx
        obtain ⟨v0, hO, hrow⟩ := HI2.out.ou
        obtain ⟨A0, c0, rfl, hrv⟩ := own_rv hrow
        obtain ⟨pl, hpl⟩ : ∃ pl, gl.length = pl := ⟨_, rfl⟩
        have kO := hO.cells
        have fO := hO.free 0
        have hOl := hO.lt
        have hwl := Ext.size HI2.out.ex
        have hlc := hrv.le
        have hcc := hrv.cap
        simp only [cellsAre, Nat.zero_add, Nat.reduceAdd, and_true] at kO
        have HOO := Lib.hid hO
        have HRW := Lib.hid hrow
        have HPL := Lib.hid hpl
        rw [hpl] at kO hlc hgl
        clear hrv hO hrow hpl
        gi_wp2_with (gi_at_builtin; refine wpListIn_append_own _ rfl _ _ TCS rfl w.heap.size TCG i0 _ 3 40 Tryz.underlying24 hi0 hz0 hz1 hz2 rfl (by decide) (.slice A0 pl c0) pl (ccs gl) rfl (by have h1 := own_below HRW.out (Ext.allocR W2 (.cells #[.string xk, .string xv, .bool false] TCG)); rw [HPL.out] at h1; exact h1) ⟨W2.heap.size, 0, none⟩ 1 1 (ccs [⟨xk, xv, false⟩]) rfl rfl (((rv_lit (w := W2) TCG 3 #[.string xk, .string xv, .bool false] 1 (by omega) rfl).news (by omega)).2.2 _ rfl) (ccs_one _) (by unfold maxLen; omega) (by omega) (by simp; omega) ?_; intro v1 w1 o1 g1 _; obtain ⟨A1, c1, hv1', _⟩ := own_rv o1; subst hv1'; have hap := HI2.out.app (by have h1 := HOO.out; rw [HPL.out] at h1; exact h1) (by have h1 := HRW.out; rw [HPL.out] at h1; exact h1) HPL.out (.cells #[.string xk, .string xv, .bool false] TCG) o1 g1 HQ.out; have k1 := hap.1.cells; have f1 := hap.1.free 0; have HAP := Lib.hid hap.2; simp only [cellsAre, Nat.zero_add, Nat.reduceAdd, and_true] at k1; clear o1 g1 hap)
        exact ⟨HK.out.1.trans HAP.out.2.1, HK.out.2.trans HAP.out.2.2, by dsimp only; rw [HE.out]; exact HAP.out.1⟩
  case done =>
    rintro D1 xs W1 hD1 rfl hI1 hK1
    rw [geP_all, HPB.out] at hI1
    have HIA := Lib.hid (hI1.push hK1 (Nat.le_trans (Ext.size HI3.out.ex) hD1))
    clear hI1 hK1 hD1 k1 k2 HI3 HB
    have ka := HIA.out.ba.cells
    simp only [cellsAre, Nat.zero_add, Nat.reduceAdd, and_true] at ka
    gi_wp2
    refine (callsIn_wide.2 (rpairs_any ta.ad _ W1)).mono ?_
    rintro e w4 ⟨rfl, hw4⟩
    obtain ⟨p', hp⟩ : ∃ p', W1.heap.size = p' := ⟨_, rfl⟩
    have x4 : Ext W1 w4 := by rw [hw4]; exact bt (Ext.allocR _ _) (Ext.allocR _ _)
    have hb1 : Blk w4 p' TNP #[.pointer ta.ad] := by rw [hw4]; exact (Blk.new_ _ _ hp).alloc _
    have hb2 : Blk w4 (p' + 1) TST #[.string ⟨#[]⟩] := by rw [hw4]; exact Blk.new_ _ _ (by simp [hp])
    have HI4 := Lib.hid (HIA.out.ext x4)
    have k1 := hb1.cells
    have k2 := hb2.cells
    simp only [cellsAre, Nat.zero_add, Nat.reduceAdd, and_true] at k1 k2
    have HB := Lib.hid (And.intro hb1 hb2)
    rw [hp]
    clear hw4 hb1 hb2 x4 HIA hp ka
    gi_wp2
    refine wpIn_rangeFunc_ownF hro (by omega) (gf := FPW) (lb := #[.pointer (some ⟨p', 0, none⟩), .pointer (some ⟨p' + 1, 0, none⟩)]) rfl (hfn _) (enters_of pwFn (by kernel_rfl) rfl)
      (pairs_stops Fence.wide hd hfn hro 8 p' (p' + 1) B (Pos B) ta ⟨#[]⟩ w4 HB.out.1.lt HB.out.2.lt k1 k2 (HTA.out.below HI4.out.ex) HSA.out) (fun h k => KN.trans h k) (fun W l o o' _ ho hc _ => KN.put ho hc) (Below.refl _ _) (fun _ => rfl)
      (fun pre W => ChI w q0 q1 q2 ta.ad tb.ad [D1] (gatB pa pb ++ gatG pre pb) W) (fun _ _ _ => False) (ChI.own (fun pre => gatB pa pb ++ gatG pre pb) (Ext.size HI4.out.ex) (fun D hD => obj_lt (HI4.out.dd D hD))) (fun _ _ _ _ _ h _ _ => h.elim) (by rw [show gatG [] pb = [] from rfl, List.append_nil]; exact HI4.out) ?a2 ?assign ?body ?done ?stop
    case assign =>
      intro l x W K hK
      gi_wp2
      exact hK
    case stop =>
      rintro D c pre W hD hpre hX hK
      exact hX.elim
    case body =>
      rintro l pre x W hI hlen
      rw [geP_all, HPA.out] at hlen
      obtain ⟨xk, xv⟩ := x
      have HII := Lib.hid hI
      have kb := hI.bb.cells
      simp only [cellsAre, Nat.zero_add, Nat.reduceAdd, and_true] at kb
      have hgl : (gatB pa pb ++ gatG pre pb).length ≤ 200000 := by have h1 := gatG_len pre pb; have h2 := gatB_len pa pb; rw [List.length_append]; omega
      have HS := Lib.hid (show gatB pa pb ++ gatG (pre ++ [(xk, xv)]) pb = (gatB pa pb ++ gatG pre pb) ++ (if fndP pb xk = none then [⟨xk, ByteArray.empty, true⟩] else []) by rw [gatG_snoc, List.append_assoc])
      obtain ⟨gl, hgle⟩ : ∃ gl, gatB pa pb ++ gatG pre pb = gl := ⟨_, rfl⟩
      rw [hgle] at HII HS hgl
      clear hI hlen hgle k1 k2
      gi_wp2
      refine (callsIn_wide.2 (rfind_any B (Pos B) xk tb W (HTB.out.below HII.out.ex) HSB.out)).mono ?_
      rintro e W2 ⟨z2, rfl, hf, b2⟩
      have HK := Lib.hid (And.intro (KO.ext b2) (KN.ext (A := W) (B := W2) b2))
      have HI2 := Lib.hid (HII.out.ext b2)
      clear b2 HII kb
      unfold FndR at hf
      rw [HPB.out] at hf
      rcases hf with ⟨rfl, hf⟩ | ⟨g, x, l', r', rfl, hf, hm⟩
      · have HE := Lib.hid (show gatB pa pb ++ gatG (pre ++ [(xk, xv)]) pb = gl ++ [⟨xk, ⟨#[]⟩, true⟩] by rw [HS.out, if_pos (fndP_none hf)]; rfl)
        clear hf
        obtain ⟨v0, hO, hrow⟩ := HI2.out.ou
        obtain ⟨A0, c0, rfl, hrv⟩ := own_rv hrow
        obtain ⟨pl, hpl⟩ : ∃ pl, gl.length = pl := ⟨_, rfl⟩
        have kO := hO.cells
        have fO := hO.free 0
        have hOl := hO.lt
        have hwl := Ext.size HI2.out.ex
        have hlc := hrv.le
        have hcc := hrv.cap
        simp only [cellsAre, Nat.zero_add, Nat.reduceAdd, and_true] at kO
        have HOO := Lib.hid hO
        have HRW := Lib.hid hrow
        have HPL := Lib.hid hpl
        rw [hpl] at kO hlc hgl
        clear hrv hO hrow hpl
        gi_wp2_with (gi_at_builtin; refine wpListIn_append_own _ rfl _ _ TCS rfl w.heap.size TCG i0 _ 3 40 Tryz.underlying24 hi0 hz0 hz1 hz2 rfl (by decide) (.slice A0 pl c0) pl (ccs gl) rfl (by have h1 := own_below HRW.out (Ext.allocR W2 (.cells #[.string xk, .string ⟨#[]⟩, .bool true] TCG)); rw [HPL.out] at h1; exact h1) ⟨W2.heap.size, 0, none⟩ 1 1 (ccs [⟨xk, ⟨#[]⟩, true⟩]) rfl rfl (((rv_lit (w := W2) TCG 3 #[.string xk, .string ⟨#[]⟩, .bool true] 1 (by omega) rfl).news (by omega)).2.2 _ rfl) (ccs_one _) (by unfold maxLen; omega) (by omega) (by simp; omega) ?_; intro v1 w1 o1 g1 _; obtain ⟨A1, c1, hv1', _⟩ := own_rv o1; subst hv1'; have hap := HI2.out.app (by have h1 := HOO.out; rw [HPL.out] at h1; exact h1) (by have h1 := HRW.out; rw [HPL.out] at h1; exact h1) HPL.out (.cells #[.string xk, .string ⟨#[]⟩, .bool true] TCG) o1 g1 HQ.out; have k1 := hap.1.cells; have f1 := hap.1.free 0; have HAP := Lib.hid hap.2; simp only [cellsAre, Nat.zero_add, Nat.reduceAdd, and_true] at k1; clear o1 g1 hap)
        exact ⟨HK.out.1.trans HAP.out.2.1, HK.out.2.trans HAP.out.2.2, by dsimp only; rw [HE.out]; exact HAP.out.1⟩
      · have HE := Lib.hid (show gatB pa pb ++ gatG (pre ++ [(xk, xv)]) pb = gl by rw [HS.out, if_neg (by rw [fndP_some HSP.out.2 hm]; simp), List.append_nil])
        clear hf hm
        gi_wp2
        exact ⟨HK.out.1, HK.out.2, by dsimp only; rw [HE.out]; exact HI2.out⟩
    case done =>
      rintro D2 xs W2 hD2 rfl hI2 hK2
      rw [geP_all, HPA.out] at hI2
      have hDD : D1 < D2 := Nat.lt_of_lt_of_le (obj_lt (HI4.out.dd D1 (by simp))) hD2
      have HIA := Lib.hid (hI2.push hK2 (Nat.le_trans (Ext.size HI4.out.ex) hD2))
      clear hI2 hK2 hD2 k1 k2 HI4 HB
      have hgl : (gatB pa pb ++ gatG pa pb).length ≤ 200000 := by have h1 := gatG_len pa pb; have h2 := gatB_len pa pb; rw [List.length_append]; omega
      obtain ⟨gl, hgle⟩ : ∃ gl, gatB pa pb ++ gatG pa pb = gl := ⟨_, rfl⟩
      have HGL := Lib.hid hgle
      rw [hgle] at HIA hgl
      obtain ⟨v0, hO, hrow⟩ := HIA.out.ou
      obtain ⟨A0, c0, rfl, hrv⟩ := own_rv hrow
      obtain ⟨pl, hpl⟩ : ∃ pl, gl.length = pl := ⟨_, rfl⟩
      have HO := Lib.hid (And.intro hO hrow)
      have kO := hO.cells
      simp only [cellsAre, Nat.zero_add, Nat.reduceAdd, and_true] at kO
      rw [hpl] at kO
      have HPL := Lib.hid hpl
      clear hO hrow hrv hgle hpl
      gi_wp2
      refine (callsIn_wide.2 (sortC_any (base := w.heap.size) (d := gl) (by have := HO.out.2; rw [HPL.out] at this; exact this) (by omega))).mono ?_
      rintro e w5 ⟨rfl, ⟨dl, hperm, hsrt, hown⟩, hg⟩
      have hs5 := HIA.out.sorted (by have := HO.out.1; rw [HPL.out] at this; exact this) (by have := HO.out.2; rw [HPL.out] at this; exact this) hg hown
      have HI5 := Lib.hid hs5.1
      have HOW := Lib.hid hown
      have HDF := Lib.hid (gat_dif HSP.out.1 HSP.out.2 (by rw [HGL.out]; exact hperm) hsrt)
      have kO := hs5.2.cells
      simp only [cellsAre, Nat.zero_add, Nat.reduceAdd, and_true] at kO
      clear hs5 hperm hsrt hown hg HIA HO
      gi_wp2
      have hk2 := HI5.out.dd D2 (by simp)
      have hk1 := HI5.out.dd D1 (by simp)
      have hlo := HI5.out.lo
      have hg2 := grownBy_putObj' w5 D2 (.deferred none)
      have hr2 : ∀ r, some D2 = some r → w.heap.size ≤ r ∧ ∃ o : Obj, w5.heap[r]? = some o ∧ o.isCells = false := fun r e => by
        injection e with e
        subst e
        exact ⟨hlo _ (by simp), _, hk2, rfl⟩
      have hk1' : (w5.putObj D2 (.deferred none)).heap[D1]? = some (.deferred (some [])) := (hg2.block D1 (obj_lt hk1) (fun e => by injection e with e; omega)).trans hk1
      have hg1 := grownBy_putObj' (w5.putObj D2 (.deferred none)) D1 (.deferred none)
      have hr1 : ∀ r, some D1 = some r → w.heap.size ≤ r ∧ ∃ o : Obj, (w5.putObj D2 (.deferred none)).heap[r]? = some o ∧ o.isCells = false := fun r e => by
        injection e with e
        subst e
        exact ⟨hlo _ (by simp), _, hk1', rfl⟩
      have hx2 := Below.grown HI5.out.ex hg2 (Ext.size HI5.out.ex) (fun k e => (hr2 k e).1)
      have hx3 := Below.grown hx2 hg1 (Ext.size hx2) (fun k e => (hr1 k e).1)
      have ho2 := own_keep HOW.out fun g cs _ _ hb => (keepB hg2 hr2 hb).trans hb.symm
      have ho3 := own_keep ho2 fun g cs _ _ hb => (keepB hg1 hr1 hb).trans hb.symm
      refine ⟨by simp, .inl ⟨_, _, rfl, run_takeDeferred hk2, ?_⟩⟩
      refine ⟨by simp, .inl ⟨_, _, rfl, run_takeDeferred hk1', ?_⟩⟩
      refine ⟨.slice A0 pl c0, ?_, ⟨_, rfl, ⟨dl, HDF.out, ho3⟩, hx3⟩⟩
      simp [results, Tryz.results78, go_sem]
end Go.Proofs.Tb
