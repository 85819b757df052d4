/- Contract of read: the store whose newest root block is known. -/
import Derived.Test.YtfljnfdeboibhaaGreatRof
set_option linter.unusedVariables false
set_option linter.unusedSimpArgs false
namespace Go.Proofs.Tb
open Go.Maps Go.RowKit Go.Lib
attribute [local go_sem] cell_set_same neqMapL

/-- Versions alike but for where their nodes lie. -/
def vsK (B : Nat → Nat) (vs : List (Nat × MT)) : List (Nat × Tr × Nat) := vs.map fun v => (v.1, v.2.er, v.2.bk B)
theorem vsK_len {B B0 : Nat → Nat} {vs vs0 : List (Nat × MT)} (h : vsK B vs = vsK B0 vs0) : vs.length = vs0.length := by
  have := congrArg List.length h
  unfold vsK at this
  rw [List.length_map, List.length_map] at this
  exact this
def XVe (_ : Nat) (o : Obj) : Prop := ∃ cs, o = .cells cs TVE (0, 0)
theorem XVe.no {T : TypeId} (hT : T ≠ TVE) (b : Nat) (cs : Array Value) : ¬ XVe b (.cells cs T (0, 0)) := fun ⟨cs', e⟩ => by
  injection e with _ e
  exact hT e
def XSe (s : Nat) (b : Nat) (o : Obj) : Prop := b = s ∧ ∃ cs, o = .cells cs TSE (0, 0)
theorem XSe.no {s : Nat} {T : TypeId} (hT : T ≠ TSE) (b : Nat) (cs : Array Value) : ¬ XSe s b (.cells cs T (0, 0)) := fun ⟨_, cs', e⟩ => by
  injection e with _ e
  exact hT e
theorem ext_chg {X : Nat → Obj → Prop} {w W W' : World} (h : Ext w W) (hc : Chg X W W') (hX : ∀ b o, X b o → w.heap.size ≤ b) : Ext w W' :=
  Below.trans h (hc.below hX (Ext.size h))
/-- Where read's loop stands. -/
structure ReS (w W : World) (lp hm d : Nat) (bl : List (List (List Nat))) (left s hbx keep num m : Nat) (Ar : Option Addr) (cr j : Nat) (A : Option Addr) (c : Nat) (B : Nat → Nat) (D : DataW Value) (vs : List (Nat × MT)) (B0 : Nat → Nat) (vs0 : List (Nat × MT)) : Prop where
  ld : LdS W w.heap.size lp hm d bl left B D
  se : Blk W s TSE #[.pointer (some ⟨d, 0, none⟩), .int .i64 (keep : Int), .slice A j c, .bool false]
  ow : OwS w.heap.size W (.slice A j c) vs
  hd : Blk W hbx THD #[.int .i64 (keep : Int), .int .i64 (num : Int), .slice Ar m cr]
  tr : ∀ v ∈ vs, TrW W B (Pos B) v.2 ∧ v.2.on (lastsB bl) B
  eq : vsK B vs = vsK B0 (vs0.take j)
  ex : Ext w W
  sw : w.heap.size ≤ s
theorem ReS.ext {w W W' : World} {lp hm d : Nat} {bl : List (List (List Nat))} {left s hbx keep num m cr j c : Nat} {A Ar : Option Addr} {B B0 : Nat → Nat} {D : DataW Value} {vs vs0 : List (Nat × MT)} (h : ReS w W lp hm d bl left s hbx keep num m Ar cr j A c B D vs B0 vs0) (hx : Ext W W') : ReS w W' lp hm d bl left s hbx keep num m Ar cr j A c B D vs B0 vs0 :=
  ⟨h.ld.ext hx, h.se.below hx, own_below h.ow hx, h.hd.below hx, fun v hv => ⟨(h.tr v hv).1.below hx, (h.tr v hv).2⟩, h.eq, bt h.ex hx, h.sw⟩
/-- .. behind a load. -/
structure ReT (w W : World) (lp hm d : Nat) (bl : List (List (List Nat))) (left s hbx keep num m : Nat) (Ar : Option Addr) (cr j : Nat) (A : Option Addr) (c : Nat) (B : Nat → Nat) (D : DataW Value) (vs : List (Nat × MT)) (B0 : Nat → Nat) (vs0 : List (Nat × MT)) (t : MT) (T : Tr) (b : Nat) : Prop where
  re : ReS w W lp hm d bl left s hbx keep num m Ar cr j A c B D vs B0 vs0
  tt : TrW W B (Pos B) t
  on : t.on (lastsB bl) B
  er : t.er = T
  bk : t.bk B = b
theorem ReS.load {w W W' : World} {lp hm d : Nat} {bl : List (List (List Nat))} {left s hbx keep num m cr j c : Nat} {A Ar : Option Addr} {B B0 : Nat → Nat} {D : DataW Value} {vs vs0 : List (Nat × MT)} (h : ReS w W lp hm d bl left s hbx keep num m Ar cr j A c B D vs B0 vs0) {T : Tr} {b : Nat} {t : MT} {B' : Nat → Nat} {D' : DataW Value} (hp : LdP W W' w.heap.size lp hm d bl left B T b t B' D') :
    ReT w W' lp hm d bl left s hbx keep num m Ar cr j A c B' D' vs B0 vs0 t T b := by
  refine ⟨⟨hp.st, hp.ch.blk h.se (XMp.no _ _ _), hp.ch.own h.ow fun b cs _ => XMp.no _ _ _, hp.ch.blk h.hd (XMp.no _ _ _), fun v hv => ⟨(hp.ag.tr (h.tr v hv).1).chg hp.ch fun b cs => XMp.no _ _ _, hp.ag.on (h.tr v hv).1 (h.tr v hv).2⟩, ?_, ext_chg h.ex hp.ch fun b o hX => by have := hX.1; have := h.ld.hb; omega, h.sw⟩, hp.tr, hp.on, hp.er, hp.bk⟩
  rw [← h.eq]
  apply List.map_congr_left
  intro v hv
  rw [hp.ag.bk (h.tr v hv).1]
theorem ReT.ext {w W W' : World} {lp hm d : Nat} {bl : List (List (List Nat))} {left s hbx keep num m cr j c : Nat} {A Ar : Option Addr} {B B0 : Nat → Nat} {D : DataW Value} {vs vs0 : List (Nat × MT)} {t : MT} {T : Tr} {b : Nat} (h : ReT w W lp hm d bl left s hbx keep num m Ar cr j A c B D vs B0 vs0 t T b) (hx : Ext W W') : ReT w W' lp hm d bl left s hbx keep num m Ar cr j A c B D vs B0 vs0 t T b :=
  ⟨h.re.ext hx, h.tt.below hx, h.on, h.er, h.bk⟩
/-- .. and behind the append. -/
theorem ReT.app {w W w6 : World} {lp hm d : Nat} {bl : List (List (List Nat))} {left s hbx keep num m cr j c c6 : Nat} {A Ar A6 : Option Addr} {B B0 : Nat → Nat} {D : DataW Value} {vs vs0 : List (Nat × MT)} {t : MT} {T : Tr} {b : Nat} (h : ReT w W lp hm d bl left s hbx keep num m Ar cr j A c B D vs B0 vs0 t T b) {q : Nat}
    (hj : j < vs0.length) (hv0 : vsK B0 [vs0[j]] = [(q, T, b)]) (ho : w6.ownsRow w.heap.size TVE 2 (.slice A6 (j + 1) c6) (j + 1) (vc vs ++ [.int .i64 (q : Int), .pointer t.ad])) (hg : W.grownBy w6 (Value.slice A j c).ownBlock) (hb : Below w.heap.size W w6) :
    Blk w6 s TSE #[.pointer (some ⟨d, 0, none⟩), .int .i64 (keep : Int), .slice A j c, .bool false] ∧ ReS w (w6.setCell ⟨s, 2, none⟩ (.slice A6 (j + 1) c6)) lp hm d bl left s hbx keep num m Ar cr (j + 1) A6 c6 B D (vs ++ [(q, t)]) B0 vs0 := by
  have hr := h.re
  have hc1 : Chg XVe W w6 := Chg.grow hg fun b' o e hbo => by
    obtain ⟨cs, hcs⟩ := own_lt' (own_lower hr.ow (Nat.zero_le _)) e
    rw [hcs] at hbo
    injection hbo with hbo
    exact ⟨cs, hbo.symm⟩
  have h1 : Blk w6 s TSE #[.pointer (some ⟨d, 0, none⟩), .int .i64 (keep : Int), .slice A j c, .bool false] := hc1.blk hr.se (XVe.no (by decide) _ _)
  have hc2 : Chg (XSe s) w6 (w6.setCell ⟨s, 2, none⟩ (.slice A6 (j + 1) c6)) := Chg.setB h1 ⟨rfl, _, rfl⟩ _ _
  have htr : ∀ {u : MT}, TrW W B (Pos B) u → TrW (w6.setCell ⟨s, 2, none⟩ (.slice A6 (j + 1) c6)) B (Pos B) u := fun hu => (hu.chg hc1 fun b cs => XVe.no (by decide) _ _).chg hc2 fun b cs => XSe.no (by decide) _ _
  have hvl : vs.length = j := by
    have := vsK_len hr.eq
    rw [List.length_take] at this
    omega
  have hld : LdS (w6.setCell ⟨s, 2, none⟩ (.slice A6 (j + 1) c6)) w.heap.size lp hm d bl left B D := (hr.ld.chg hc1 (fun b' o _ hM hX => by
    obtain ⟨cs, rfl⟩ := hX
    have : TVE = TDK ∨ TVE = TBY ∨ TVE = TSE := hM
    revert this
    decide) (fun b cs => XVe.no (by decide) _ _) (fun b cs => XVe.no (by decide) _ _) (fun es c hX => by obtain ⟨cs, e⟩ := hX; cases e) fun b cs _ => XVe.no (by decide) _ _).chg hc2 (fun b' o hb' _ hX => by have := hX.1; have := hr.sw; omega) (fun b cs => XSe.no (by decide) _ _) (fun b cs => XSe.no (by decide) _ _) (fun es c hX => by obtain ⟨_, cs, e⟩ := hX; cases e) fun b cs _ => XSe.no (by decide) _ _
  refine ⟨h1, hld, h1.set_ 2 _, ?_, hc2.blk (hc1.blk hr.hd (XVe.no (by decide) _ _)) (XSe.no (by decide) _ _), fun v hv => ?_, ?_, (Below.trans hr.ex hb).setCell (p := ⟨s, 2, none⟩) hr.sw _, hr.sw⟩
  · unfold OwS
    rw [List.length_append, List.length_singleton, hvl, vc_app]
    exact own_far ho (p := ⟨s, 2, none⟩) h1 (by decide) _
  · rcases List.mem_append.1 hv with hv | hv
    · exact ⟨htr (hr.tr v hv).1, (hr.tr v hv).2⟩
    · rw [List.mem_singleton.1 hv]
      exact ⟨htr h.tt, h.on⟩
  · rw [List.take_succ_eq_append_getElem hj]
    have e1 : vsK B (vs ++ [(q, t)]) = vsK B vs ++ [(q, t.er, t.bk B)] := by unfold vsK; rw [List.map_append]; rfl
    have e2 : vsK B0 (vs0.take j ++ [vs0[j]]) = vsK B0 (vs0.take j) ++ vsK B0 [vs0[j]] := by unfold vsK; rw [List.map_append]
    rw [e1, e2, hv0, hr.eq, h.er, h.bk]
/-- What read answers. -/
structure ReA (F : Nat → Prop) (w' : World) (d : Nat) (bl : List (List (List Nat))) (left keep : Nat) (B0 : Nat → Nat) (vs0 : List (Nat × MT)) (s : Nat) (vs : List (Nat × MT)) (B : Nat → Nat) : Prop where
  si : SI F w' s d keep vs B false bl false left
  eq : vsK B vs = vsK B0 vs0
  on : ∀ v ∈ vs, v.2.on (lastsB bl) B
theorem DW.old {F : Nat → Prop} {w : World} {d : Nat} {bl : List (List (List Nat))} {down : Bool} {left : Nat} (h : DW F w d bl down left) : DW (fun b => b < w.heap.size) w d bl down left := by
  obtain ⟨g, h1, h2, h3⟩ := h
  refine ⟨g, h1, h2, fun b hb => ?_⟩
  obtain ⟨o, ho, _⟩ := h1.fp_lt (by rw [List.length_map]; exact hb)
  exact obj_lt ho
set_option maxHeartbeats 6400000 in
set_option maxRecDepth 100000 in
theorem rread_at {F : Nat → Prop} (d keep num m : Nat) (A : Option Addr) (c : Nat) (B0 : Nat → Nat) (vs0 : List (Nat × MT)) (bl : List (List (List Nat))) (left : Nat) (w : World) (hd : DW F w d bl false left) (hF : ∀ b, w.heap.size ≤ b → F b) (hr : Rv w 1 A m c (ri (rtB B0 vs0))) (hm : vs0.length = m) (hm2 : m ≤ 20) (hm3 : m ≤ num + 1) (hnum : num ≤ 1000000000)
    (hv : ∀ i (hi : i < vs0.length), (vs0[i]).1 = num - i) (hon : ∀ v ∈ vs0, v.2.on (lastsB bl) B0 ∧ OkP v.2.er.prs ∧ v.2.er.ht < 64) :
    Calls Tryz.prog 62 #[.pointer (some ⟨d, 0, none⟩), hdV keep num A m c] w (Ret (fun z w' => ∃ s vs B, z = .tuple #[.pointer (some ⟨s, 0, none⟩), .int .i64 0] ∧ ReA F w' d bl left keep B0 vs0 s vs B) w) := by
  unfold hdV
  have hmm := @run_makeMap Tryz.prog
  have HD := Lib.hid hd
  have HF := Lib.hid hF
  have HR := Lib.hid hr
  have HM := Lib.hid hm
  have HV := Lib.hid hv
  have HON := Lib.hid hon
  have hle := hr.le
  have hcp := hr.cap
  clear hd hF hr hm hv hon
  go_enter Tryz.func62, Tryz.ntmps62
  go_upto_region 3 with fail
  clear hmm
  have hw4 : ReS w ((((w.alloc (.cells #[.int .i64 (keep : Int), .int .i64 (num : Int), .slice A m c] THD)).alloc (.cells #[.pointer (some ⟨d, 0, none⟩), .int .i64 (keep : Int), .slice none 0 0, .bool false] TSE)).alloc (.map #[] 0)).alloc (.cells #[.pointer (some ⟨d, 0, none⟩), .map (some (w.heap.size + 1 + 1)), .bool false] TLD)) (w.heap.size + 1 + 1 + 1) (w.heap.size + 1 + 1) d bl left (w.heap.size + 1) w.heap.size keep num m A c 0 none 0 (fun _ => 0) (.map []) [] B0 vs0 := by
    have x4 : Ext w ((((w.alloc (.cells #[.int .i64 (keep : Int), .int .i64 (num : Int), .slice A m c] THD)).alloc (.cells #[.pointer (some ⟨d, 0, none⟩), .int .i64 (keep : Int), .slice none 0 0, .bool false] TSE)).alloc (.map #[] 0)).alloc (.cells #[.pointer (some ⟨d, 0, none⟩), .map (some (w.heap.size + 1 + 1)), .bool false] TLD)) := bt (Ext.allocR _ _) (bt (Ext.allocR _ _) (bt (Ext.allocR _ _) (Ext.allocR _ _)))
    have e2 : ((w.alloc (.cells #[.int .i64 (keep : Int), .int .i64 (num : Int), .slice A m c] THD)).alloc (.cells #[.pointer (some ⟨d, 0, none⟩), .int .i64 (keep : Int), .slice none 0 0, .bool false] TSE)).heap.size = w.heap.size + 1 + 1 := by simp
    have hm4 := World.ownsMap_made (H := Value) ((w.alloc (.cells #[.int .i64 (keep : Int), .int .i64 (num : Int), .slice A m c] THD)).alloc (.cells #[.pointer (some ⟨d, 0, none⟩), .int .i64 (keep : Int), .slice none 0 0, .bool false] TSE)) Tryz.prog TIN RH
    rw [e2] at hm4
    have hno : ∀ l, Maps.has (.map [] : DataW Value) l = false := fun l => rfl
    exact ⟨⟨Blk.new_ _ _ (by simp), HD.out.old.ext x4, by omega, hm4.alloc _, fun l hl => (by rw [hno] at hl; cases hl), fun k hk => (by rw [hno] at hk; cases hk), fun _ _ => rfl, fun _ => Nat.zero_le _⟩, ((Blk.new_ _ _ (by simp)).alloc _).alloc _, World.ownsRow_nil _ _ _ _, (((Blk.new_ _ _ rfl).alloc _).alloc _).alloc _, fun v hv => (by cases hv), (by simp [vsK]), x4, by omega⟩
  refine wp_world (fun W => ReS w W (w.heap.size + 1 + 1 + 1) (w.heap.size + 1 + 1) d bl left (w.heap.size + 1) w.heap.size keep num m A c 0 none 0 (fun _ => 0) (.map []) [] B0 vs0) hw4 ?_
  clear hw4
  rintro W0 hw0
  obtain ⟨lp, hlp⟩ : ∃ lp, w.heap.size + 1 + 1 + 1 = lp := ⟨_, rfl⟩
  rw [hlp] at hw0 ⊢
  obtain ⟨hm, hhm⟩ : ∃ hm, w.heap.size + 1 + 1 = hm := ⟨_, rfl⟩
  rw [hhm] at hw0 ⊢
  obtain ⟨s, hs⟩ : ∃ s, w.heap.size + 1 = s := ⟨_, rfl⟩
  rw [hs] at hw0 ⊢
  have HF2 := Lib.hid (show F s from HF.out s (by omega))
  obtain ⟨hbx, hhbx⟩ : ∃ hbx, w.heap.size = hbx := ⟨_, rfl⟩
  have HW0 := Lib.hid (show ReS w W0 lp hm d bl left s hbx keep num m A c 0 none 0 (fun _ => 0) (.map []) [] B0 vs0 by rw [← hhbx]; exact hw0)
  rw [hhbx]
  have k0 := HW0.out.hd.cells
  simp only [cellsAre, Nat.zero_add, Nat.reduceAdd, and_true] at k0
  clear hw0 hlp hhm hs hhbx
  go_wp2_with fail
  go_loopw [22] (fun i wr => ∃ (j : Nat) (A5 : Option Addr) (c5 : Nat) (B : Nat → Nat) (D : DataW Value) (vs : List (Nat × MT)), j ≤ m ∧ i = .int .i64 (j : Int) ∧ ReS w wr lp hm d bl left s hbx keep num m A c j A5 c5 B D vs B0 vs0) (fun i _ => m - (intOf i).toNat)
  case atStart => exact ⟨0, none, 0, _, _, [], by omega, rfl, HW0.out⟩
  case round =>
    clear HW0 k0
    obtain ⟨j, A5, c5, B, D, vs, hj, rfl, hw⟩ := hrel
    have HW := Lib.hid hw
    clear hw
    by_cases hjm : j < m
    · have pj : (j : Int) < (m : Int) := by omega
      have hjv : j < vs0.length := by rw [HM.out]; exact hjm
      obtain ⟨b, o, rfl, hc⟩ := (HR.out.below HW.out.ex).at_ (by omega)
      obtain ⟨nb, hnb⟩ : ∃ nb, (vs0[j]).2.bk B0 = nb := ⟨_, rfl⟩
      have k1 := hc j (.int .i64 (nb : Int)) (by
        unfold ri rtB
        rw [List.getElem?_map, List.getElem?_map, List.getElem?_eq_getElem hjv, ← hnb]
        rfl)
      obtain ⟨h1, h2, h3⟩ := HON.out _ (List.getElem_mem hjv)
      obtain ⟨q, hq⟩ : ∃ q, num - j = q := ⟨_, rfl⟩
      have wq : IntKind.i64.wrap ((num : Int) - (j : Int)) = (q : Int) := by rw [IntWalk.i64_in _ (by omega)]; omega
      have HJ := Lib.hid hjv
      obtain ⟨T, hT⟩ : ∃ T, (vs0[j]).2.er = T := ⟨_, rfl⟩
      have HCL := Lib.hid (show ∀ W D B, LdS W w.heap.size lp hm d bl left B D → Calls Tryz.prog 87 #[.pointer (some ⟨lp, 0, none⟩), .int .i64 (nb : Int), .int .i64 64] W fun e w' => LdA W w' w.heap.size lp hm d bl left B T nb e from fun W D B hW => by
        subst hT hnb
        exact rload_any w.heap.size lp hm d bl left B0 (vs0[j]).2 64 W B D h1 h2 h3 (Nat.le_refl _) hW)
      have HV0 := Lib.hid (show vsK B0 [vs0[j]] = [(q, T, nb)] by
        subst hT hnb
        exact congrArg (fun x => [(x, (vs0[j]).2.er, (vs0[j]).2.bk B0)]) ((HV.out j hjv).trans hq))
      have hvl : vs.length = j := by
        have := vsK_len HW.out.eq
        rw [List.length_take] at this
        omega
      clear hc hnb h1 h2 h3 hq hT hjv
      go_upto_region 6 with fail
      have hst : Ext wr wr.drew := Ext.drew _
      obtain ⟨wd, hwd⟩ : ∃ wd, wr.drew = wd := ⟨_, rfl⟩
      have HD6 := Lib.hid (HW.out.ext (show Ext wr wd by rw [← hwd]; exact hst))
      refine wp_region_brn (S := (fun w' => w'.cell? ⟨hbx, 1, none⟩ = some (.int .i64 (num : Int)))) (by kernel_rfl) (by kernel_rfl) (fun _ _ _ _ _ => ⟨fun h => h, fun h => h⟩) ?_
      intro hsel_ hQ_
      rw [hwd]
      clear hwd hst HW k1
      have kd := HD6.out.se.cells
      have kh := HD6.out.hd.cells
      simp only [cellsAre, Nat.zero_add, Nat.reduceAdd, and_true] at kd kh
      have s0 := kh.2.1
      clear kh
      refine wpB_chunk (f := 8) (L' := #[true, true, true, true, false, true, true, true, true, true, true, false, false, false, false, false, false, false]) hsel_ hQ_ [(0, true, some 27, none), (1, true, some 28, none), (2, true, some 29, none), (3, true, some 30, none), (5, true, some 32, none), (6, true, some 33, none), (7, true, some 34, none), (8, true, some 35, none), (9, true, some 36, none), (10, true, some 37, none)] _ _ _ (by kernel_rfl) s0 ?_
      repeat (first | (refine wpSeqB_pure (v := ?_) rfl ?_ ?_; rotate_left 1; (focus (intro wq_ hSq_; (try dsimp only at hSq_); go_simp; (try with_reducible rfl); done)); (try simp only [Act.put, List.setIfInBounds_toArray, List.set_cons_zero, List.set_cons_succ])) | (refine wpSeqB_pureG (v := ?_) rfl rfl ?_ ?_; rotate_left 1; (focus (intro wq_ hSq_; (try dsimp only at hSq_); go_simp; (try with_reducible rfl); done)); (try simp only [Act.put, List.setIfInBounds_toArray, List.set_cons_zero, List.set_cons_succ])) | (refine wpSeqB_off rfl rfl ?_; (try simp only [Act.put, List.setIfInBounds_toArray, List.set_cons_zero, List.set_cons_succ])) | (refine wpSeqB_offU rfl ?_; (try simp only [Act.put, List.setIfInBounds_toArray, List.set_cons_zero, List.set_cons_succ])))
      intro s_
      clear s_
      refine wpB_two 4 11 (by kernel_rfl) rfl rfl rfl rfl ?_ ?_
      · intro K hK
        go_simp
        refine hK.out _ _ s0 ?_
        clear hK K kd
        (try simp only [List.getElem_toArray, List.getElem_cons_succ, List.getElem_cons_zero, Act.put, List.setIfInBounds_toArray, List.set_cons_zero, List.set_cons_succ])
        refine wpB_chunk (f := 0) (L' := #[true, true, true, true, true, true, true, true, true, true, true, true, true, true, true, true, true, true]) hsel_ hQ_ [(11, false, some 38, none), (12, true, some 39, none), (13, false, some 40, none), (14, false, some 41, none), (15, true, some 42, none), (16, true, some 43, none), (17, false, none, none)] _ _ _ (by kernel_rfl) s0 ?_
        repeat (first | (refine wpSeqB_pure (v := ?_) rfl ?_ ?_; rotate_left 1; (focus (intro wq_ hSq_; (try dsimp only at hSq_); go_simp; (try with_reducible rfl); done)); (try simp only [Act.put, List.setIfInBounds_toArray, List.set_cons_zero, List.set_cons_succ])) | (refine wpSeqB_pureG (v := ?_) rfl rfl ?_ ?_; rotate_left 1; (focus (intro wq_ hSq_; (try dsimp only at hSq_); go_simp; (try with_reducible rfl); done)); (try simp only [Act.put, List.setIfInBounds_toArray, List.set_cons_zero, List.set_cons_succ])) | (refine wpSeqB_off rfl rfl ?_; (try simp only [Act.put, List.setIfInBounds_toArray, List.set_cons_zero, List.set_cons_succ])) | (refine wpSeqB_offU rfl ?_; (try simp only [Act.put, List.setIfInBounds_toArray, List.set_cons_zero, List.set_cons_succ])))
        first | refine wpSeqB_call rfl (fun K hK => ?_) | refine wpSeqB_callG rfl rfl (fun K hK => ?_)
        go_simp
        refine (HCL.out _ _ _ HD6.out.ld).mono ?_
        rintro e wy ⟨t1, B1, D1, rfl, hp1⟩
        have HY := Lib.hid (HD6.out.load hp1)
        obtain ⟨a1, ha1⟩ : ∃ a1, t1.ad = a1 := ⟨_, rfl⟩
        have HA1 := Lib.hid ha1
        rw [ha1]
        clear hp1 ha1
        have kh := HY.out.re.hd.cells
        simp only [cellsAre, Nat.zero_add, Nat.reduceAdd, and_true] at kh
        have s1 := kh.2.1
        clear kh
        go_wp2_with fail
        refine hK.out _ _ s1 ?_
        clear hK K
        (try simp only [List.getElem_toArray, List.getElem_cons_succ, List.getElem_cons_zero, Act.put, List.setIfInBounds_toArray, List.set_cons_zero, List.set_cons_succ])
        repeat (first | (refine wpSeqB_pure (v := ?_) rfl ?_ ?_; rotate_left 1; (focus (intro wq_ hSq_; (try dsimp only at hSq_); go_simp; (try with_reducible rfl); done)); (try simp only [Act.put, List.setIfInBounds_toArray, List.set_cons_zero, List.set_cons_succ])) | (refine wpSeqB_pureG (v := ?_) rfl rfl ?_ ?_; rotate_left 1; (focus (intro wq_ hSq_; (try dsimp only at hSq_); go_simp; (try with_reducible rfl); done)); (try simp only [Act.put, List.setIfInBounds_toArray, List.set_cons_zero, List.set_cons_succ])) | (refine wpSeqB_off rfl rfl ?_; (try simp only [Act.put, List.setIfInBounds_toArray, List.set_cons_zero, List.set_cons_succ])) | (refine wpSeqB_offU rfl ?_; (try simp only [Act.put, List.setIfInBounds_toArray, List.set_cons_zero, List.set_cons_succ])))
        first | refine wpSeqB_call rfl (fun K hK => ?_) | refine wpSeqB_callG rfl rfl (fun K hK => ?_)
        go_simp
        have HZ := Lib.hid (HY.out.ext (Ext.allocR wy (.cells #[.int .i64 (q : Int), .pointer a1] TVE)))
        have kh := HZ.out.re.hd.cells
        simp only [cellsAre, Nat.zero_add, Nat.reduceAdd, and_true] at kh
        have s2 := kh.2.1
        refine hK.out _ _ s2 ?_
        clear hK K kh
        (try simp only [List.getElem_toArray, List.getElem_cons_succ, List.getElem_cons_zero, Act.put, List.setIfInBounds_toArray, List.set_cons_zero, List.set_cons_succ])
        first | refine wpSeqB_call rfl (fun K hK => ?_) | refine wpSeqB_callG rfl rfl (fun K hK => ?_)
        refine wp_appR TVS TVE _ 2 16 ve_info Tryz.underlying91 rfl (by omega) (by omega) _ _ (by rfl) w.heap.size (.slice A5 j c5) j (vc vs) (by rfl) (by have := HZ.out.re.ow; unfold OwS at this; rw [hvl] at this; exact this) (some ⟨wy.heap.size, 0, none⟩) 1 1 [.int .i64 (q : Int), .pointer a1] (by rfl) (rv_lit TVE 2 #[.int .i64 (q : Int), .pointer a1] 1 (by omega) rfl) (fun u hu => by rcases List.mem_cons.1 hu with rfl | hu; rfl; rw [List.mem_singleton.1 hu]; rfl) (by omega) (by omega) (Ext.size HZ.out.re.ex) ?_
        intro v6 w6 o6 g6 b6
        obtain ⟨A6, c6, ev, _⟩ := own_rv o6
        subst ev
        rw [← HA1.out] at o6
        have hap := HZ.out.app HJ.out HV0.out o6 g6 b6
        have k6 := hap.1.cells
        have f6 := hap.1.free 2
        have HAP := Lib.hid hap.2
        have kh := ((((Chg.grow (X := XVe) g6 fun b' o e hbo => by
          obtain ⟨cs, hcs⟩ := own_lt' (own_lower HZ.out.re.ow (Nat.zero_le _)) e
          rw [hcs] at hbo
          injection hbo with hbo
          exact ⟨cs, hbo.symm⟩).blk HZ.out.re.hd (XVe.no (by decide) _ _)).cells))
        simp only [cellsAre, Nat.zero_add, Nat.reduceAdd, and_true] at k6 kh
        have s3 := kh.2.1
        refine hK.out _ _ s3 ?_
        clear hK K o6 g6 b6 hap kh
        (try simp only [List.getElem_toArray, List.getElem_cons_succ, List.getElem_cons_zero, Act.put, List.setIfInBounds_toArray, List.set_cons_zero, List.set_cons_succ])
        repeat (first | (refine wpSeqB_pure (v := ?_) rfl ?_ ?_; rotate_left 1; (focus (intro wq_ hSq_; (try dsimp only at hSq_); go_simp; (try with_reducible rfl); done)); (try simp only [Act.put, List.setIfInBounds_toArray, List.set_cons_zero, List.set_cons_succ])) | (refine wpSeqB_pureG (v := ?_) rfl rfl ?_ ?_; rotate_left 1; (focus (intro wq_ hSq_; (try dsimp only at hSq_); go_simp; (try with_reducible rfl); done)); (try simp only [Act.put, List.setIfInBounds_toArray, List.set_cons_zero, List.set_cons_succ])) | (refine wpSeqB_off rfl rfl ?_; (try simp only [Act.put, List.setIfInBounds_toArray, List.set_cons_zero, List.set_cons_succ])) | (refine wpSeqB_offU rfl ?_; (try simp only [Act.put, List.setIfInBounds_toArray, List.set_cons_zero, List.set_cons_succ])))
        first | refine wpSeqB_call rfl (fun K hK => ?_) | refine wpSeqB_callG rfl rfl (fun K hK => ?_)
        go_simp
        have kh := HAP.out.hd.cells
        simp only [cellsAre, Nat.zero_add, Nat.reduceAdd, and_true] at kh
        have s4 := kh.2.1
        refine hK.out _ _ s4 ?_
        clear hK K kh
        (try simp only [List.getElem_toArray, List.getElem_cons_succ, List.getElem_cons_zero, Act.put, List.setIfInBounds_toArray, List.set_cons_zero, List.set_cons_succ])
        intro s_
        refine wpB_end (by kernel_rfl) ?_
        clear s_
        go_wp2
        go_roundw
        case rel => exact ⟨j + 1, A6, c6, B1, D1, _, by omega, by go_num, HAP.out⟩
        case measure => simp [intOf]; omega
      · intro K hK
        go_simp
        refine (HCL.out _ _ _ HD6.out.ld).mono ?_
        rintro e wy ⟨t1, B1, D1, rfl, hp1⟩
        have HY := Lib.hid (HD6.out.load hp1)
        obtain ⟨a1, ha1⟩ : ∃ a1, t1.ad = a1 := ⟨_, rfl⟩
        have HA1 := Lib.hid ha1
        rw [ha1]
        clear hp1 ha1
        have kh := HY.out.re.hd.cells
        simp only [cellsAre, Nat.zero_add, Nat.reduceAdd, and_true] at kh
        have s1 := kh.2.1
        clear kh
        go_wp2_with fail
        refine hK.out _ _ s1 ?_
        clear hK K kd
        (try simp only [List.getElem_toArray, List.getElem_cons_succ, List.getElem_cons_zero, Act.put, List.setIfInBounds_toArray, List.set_cons_zero, List.set_cons_succ])
        refine wpB_chunk (f := 6) (L' := #[true, true, true, true, false, true, true, true, true, true, true, true, true, false, false, false, false, false]) hsel_ hQ_ [(12, true, some 39, none)] _ _ _ (by kernel_rfl) s1 ?_
        repeat (first | (refine wpSeqB_pure (v := ?_) rfl ?_ ?_; rotate_left 1; (focus (intro wq_ hSq_; (try dsimp only at hSq_); go_simp; (try with_reducible rfl); done)); (try simp only [Act.put, List.setIfInBounds_toArray, List.set_cons_zero, List.set_cons_succ])) | (refine wpSeqB_pureG (v := ?_) rfl rfl ?_ ?_; rotate_left 1; (focus (intro wq_ hSq_; (try dsimp only at hSq_); go_simp; (try with_reducible rfl); done)); (try simp only [Act.put, List.setIfInBounds_toArray, List.set_cons_zero, List.set_cons_succ])) | (refine wpSeqB_off rfl rfl ?_; (try simp only [Act.put, List.setIfInBounds_toArray, List.set_cons_zero, List.set_cons_succ])) | (refine wpSeqB_offU rfl ?_; (try simp only [Act.put, List.setIfInBounds_toArray, List.set_cons_zero, List.set_cons_succ])))
        intro s_
        clear s_
        have kd := HY.out.re.se.cells
        simp only [cellsAre, Nat.zero_add, Nat.reduceAdd, and_true] at kd
        refine wpB_two 4 13 (by kernel_rfl) rfl rfl rfl rfl ?_ ?_
        · intro K hK
          go_simp
          refine hK.out _ _ s1 ?_
          clear hK K kd
          (try simp only [List.getElem_toArray, List.getElem_cons_succ, List.getElem_cons_zero, Act.put, List.setIfInBounds_toArray, List.set_cons_zero, List.set_cons_succ])
          refine wpB_chunk (f := 0) (L' := #[true, true, true, true, true, true, true, true, true, true, true, true, true, true, true, true, true, true]) hsel_ hQ_ [(13, false, some 40, none), (14, false, some 41, none), (15, true, some 42, none), (16, true, some 43, none), (17, false, none, none)] _ _ _ (by kernel_rfl) s1 ?_
          repeat (first | (refine wpSeqB_pure (v := ?_) rfl ?_ ?_; rotate_left 1; (focus (intro wq_ hSq_; (try dsimp only at hSq_); go_simp; (try with_reducible rfl); done)); (try simp only [Act.put, List.setIfInBounds_toArray, List.set_cons_zero, List.set_cons_succ])) | (refine wpSeqB_pureG (v := ?_) rfl rfl ?_ ?_; rotate_left 1; (focus (intro wq_ hSq_; (try dsimp only at hSq_); go_simp; (try with_reducible rfl); done)); (try simp only [Act.put, List.setIfInBounds_toArray, List.set_cons_zero, List.set_cons_succ])) | (refine wpSeqB_off rfl rfl ?_; (try simp only [Act.put, List.setIfInBounds_toArray, List.set_cons_zero, List.set_cons_succ])) | (refine wpSeqB_offU rfl ?_; (try simp only [Act.put, List.setIfInBounds_toArray, List.set_cons_zero, List.set_cons_succ])))
          first | refine wpSeqB_call rfl (fun K hK => ?_) | refine wpSeqB_callG rfl rfl (fun K hK => ?_)
          go_simp
          have HZ := Lib.hid (HY.out.ext (Ext.allocR wy (.cells #[.int .i64 (q : Int), .pointer a1] TVE)))
          have kh := HZ.out.re.hd.cells
          simp only [cellsAre, Nat.zero_add, Nat.reduceAdd, and_true] at kh
          have s2 := kh.2.1
          refine hK.out _ _ s2 ?_
          clear hK K kh
          (try simp only [List.getElem_toArray, List.getElem_cons_succ, List.getElem_cons_zero, Act.put, List.setIfInBounds_toArray, List.set_cons_zero, List.set_cons_succ])
          first | refine wpSeqB_call rfl (fun K hK => ?_) | refine wpSeqB_callG rfl rfl (fun K hK => ?_)
          refine wp_appR TVS TVE _ 2 16 ve_info Tryz.underlying91 rfl (by omega) (by omega) _ _ (by rfl) w.heap.size (.slice A5 j c5) j (vc vs) (by rfl) (by have := HZ.out.re.ow; unfold OwS at this; rw [hvl] at this; exact this) (some ⟨wy.heap.size, 0, none⟩) 1 1 [.int .i64 (q : Int), .pointer a1] (by rfl) (rv_lit TVE 2 #[.int .i64 (q : Int), .pointer a1] 1 (by omega) rfl) (fun u hu => by rcases List.mem_cons.1 hu with rfl | hu; rfl; rw [List.mem_singleton.1 hu]; rfl) (by omega) (by omega) (Ext.size HZ.out.re.ex) ?_
          intro v6 w6 o6 g6 b6
          obtain ⟨A6, c6, ev, _⟩ := own_rv o6
          subst ev
          rw [← HA1.out] at o6
          have hap := HZ.out.app HJ.out HV0.out o6 g6 b6
          have k6 := hap.1.cells
          have f6 := hap.1.free 2
          have HAP := Lib.hid hap.2
          have kh := ((((Chg.grow (X := XVe) g6 fun b' o e hbo => by
            obtain ⟨cs, hcs⟩ := own_lt' (own_lower HZ.out.re.ow (Nat.zero_le _)) e
            rw [hcs] at hbo
            injection hbo with hbo
            exact ⟨cs, hbo.symm⟩).blk HZ.out.re.hd (XVe.no (by decide) _ _)).cells))
          simp only [cellsAre, Nat.zero_add, Nat.reduceAdd, and_true] at k6 kh
          have s3 := kh.2.1
          refine hK.out _ _ s3 ?_
          clear hK K o6 g6 b6 hap kh
          (try simp only [List.getElem_toArray, List.getElem_cons_succ, List.getElem_cons_zero, Act.put, List.setIfInBounds_toArray, List.set_cons_zero, List.set_cons_succ])
          repeat (first | (refine wpSeqB_pure (v := ?_) rfl ?_ ?_; rotate_left 1; (focus (intro wq_ hSq_; (try dsimp only at hSq_); go_simp; (try with_reducible rfl); done)); (try simp only [Act.put, List.setIfInBounds_toArray, List.set_cons_zero, List.set_cons_succ])) | (refine wpSeqB_pureG (v := ?_) rfl rfl ?_ ?_; rotate_left 1; (focus (intro wq_ hSq_; (try dsimp only at hSq_); go_simp; (try with_reducible rfl); done)); (try simp only [Act.put, List.setIfInBounds_toArray, List.set_cons_zero, List.set_cons_succ])) | (refine wpSeqB_off rfl rfl ?_; (try simp only [Act.put, List.setIfInBounds_toArray, List.set_cons_zero, List.set_cons_succ])) | (refine wpSeqB_offU rfl ?_; (try simp only [Act.put, List.setIfInBounds_toArray, List.set_cons_zero, List.set_cons_succ])))
          first | refine wpSeqB_call rfl (fun K hK => ?_) | refine wpSeqB_callG rfl rfl (fun K hK => ?_)
          go_simp
          have kh := HAP.out.hd.cells
          simp only [cellsAre, Nat.zero_add, Nat.reduceAdd, and_true] at kh
          have s4 := kh.2.1
          refine hK.out _ _ s4 ?_
          clear hK K kh
          (try simp only [List.getElem_toArray, List.getElem_cons_succ, List.getElem_cons_zero, Act.put, List.setIfInBounds_toArray, List.set_cons_zero, List.set_cons_succ])
          intro s_
          refine wpB_end (by kernel_rfl) ?_
          clear s_
          go_wp2
          go_roundw
          case rel => exact ⟨j + 1, A6, c6, B1, D1, _, by omega, by go_num, HAP.out⟩
          case measure => simp [intOf]; omega
        · intro K hK
          go_simp
          have HZ := Lib.hid (HY.out.ext (Ext.allocR wy (.cells #[.int .i64 (q : Int), .pointer a1] TVE)))
          have kh := HZ.out.re.hd.cells
          simp only [cellsAre, Nat.zero_add, Nat.reduceAdd, and_true] at kh
          have s2 := kh.2.1
          refine hK.out _ _ s2 ?_
          clear hK K kh
          (try simp only [List.getElem_toArray, List.getElem_cons_succ, List.getElem_cons_zero, Act.put, List.setIfInBounds_toArray, List.set_cons_zero, List.set_cons_succ])
          have kd := HZ.out.re.se.cells
          simp only [cellsAre, Nat.zero_add, Nat.reduceAdd, and_true] at kd
          refine wpB_chunk (f := 0) (L' := #[true, true, true, true, true, true, true, true, true, true, true, true, true, true, true, true, true, true]) hsel_ hQ_ [(4, false, some 31, none), (14, false, some 41, none), (15, true, some 42, none), (16, true, some 43, none), (17, false, none, none)] _ _ _ (by kernel_rfl) s2 ?_
          repeat (first | (refine wpSeqB_pure (v := ?_) rfl ?_ ?_; rotate_left 1; (focus (intro wq_ hSq_; (try dsimp only at hSq_); go_simp; (try with_reducible rfl); done)); (try simp only [Act.put, List.setIfInBounds_toArray, List.set_cons_zero, List.set_cons_succ])) | (refine wpSeqB_pureG (v := ?_) rfl rfl ?_ ?_; rotate_left 1; (focus (intro wq_ hSq_; (try dsimp only at hSq_); go_simp; (try with_reducible rfl); done)); (try simp only [Act.put, List.setIfInBounds_toArray, List.set_cons_zero, List.set_cons_succ])) | (refine wpSeqB_off rfl rfl ?_; (try simp only [Act.put, List.setIfInBounds_toArray, List.set_cons_zero, List.set_cons_succ])) | (refine wpSeqB_offU rfl ?_; (try simp only [Act.put, List.setIfInBounds_toArray, List.set_cons_zero, List.set_cons_succ])))
          first | refine wpSeqB_call rfl (fun K hK => ?_) | refine wpSeqB_callG rfl rfl (fun K hK => ?_)
          go_simp
          refine hK.out _ _ s2 ?_
          clear hK K kd
          (try simp only [List.getElem_toArray, List.getElem_cons_succ, List.getElem_cons_zero, Act.put, List.setIfInBounds_toArray, List.set_cons_zero, List.set_cons_succ])
          repeat (first | (refine wpSeqB_pure (v := ?_) rfl ?_ ?_; rotate_left 1; (focus (intro wq_ hSq_; (try dsimp only at hSq_); go_simp; (try with_reducible rfl); done)); (try simp only [Act.put, List.setIfInBounds_toArray, List.set_cons_zero, List.set_cons_succ])) | (refine wpSeqB_pureG (v := ?_) rfl rfl ?_ ?_; rotate_left 1; (focus (intro wq_ hSq_; (try dsimp only at hSq_); go_simp; (try with_reducible rfl); done)); (try simp only [Act.put, List.setIfInBounds_toArray, List.set_cons_zero, List.set_cons_succ])) | (refine wpSeqB_off rfl rfl ?_; (try simp only [Act.put, List.setIfInBounds_toArray, List.set_cons_zero, List.set_cons_succ])) | (refine wpSeqB_offU rfl ?_; (try simp only [Act.put, List.setIfInBounds_toArray, List.set_cons_zero, List.set_cons_succ])))
          first | refine wpSeqB_call rfl (fun K hK => ?_) | refine wpSeqB_callG rfl rfl (fun K hK => ?_)
          refine wp_appR TVS TVE _ 2 16 ve_info Tryz.underlying91 rfl (by omega) (by omega) _ _ (by rfl) w.heap.size (.slice A5 j c5) j (vc vs) (by rfl) (by have := HZ.out.re.ow; unfold OwS at this; rw [hvl] at this; exact this) (some ⟨wy.heap.size, 0, none⟩) 1 1 [.int .i64 (q : Int), .pointer a1] (by rfl) (rv_lit TVE 2 #[.int .i64 (q : Int), .pointer a1] 1 (by omega) rfl) (fun u hu => by rcases List.mem_cons.1 hu with rfl | hu; rfl; rw [List.mem_singleton.1 hu]; rfl) (by omega) (by omega) (Ext.size HZ.out.re.ex) ?_
          intro v6 w6 o6 g6 b6
          obtain ⟨A6, c6, ev, _⟩ := own_rv o6
          subst ev
          rw [← HA1.out] at o6
          have hap := HZ.out.app HJ.out HV0.out o6 g6 b6
          have k6 := hap.1.cells
          have f6 := hap.1.free 2
          have HAP := Lib.hid hap.2
          have kh := ((((Chg.grow (X := XVe) g6 fun b' o e hbo => by
            obtain ⟨cs, hcs⟩ := own_lt' (own_lower HZ.out.re.ow (Nat.zero_le _)) e
            rw [hcs] at hbo
            injection hbo with hbo
            exact ⟨cs, hbo.symm⟩).blk HZ.out.re.hd (XVe.no (by decide) _ _)).cells))
          simp only [cellsAre, Nat.zero_add, Nat.reduceAdd, and_true] at k6 kh
          have s3 := kh.2.1
          refine hK.out _ _ s3 ?_
          clear hK K o6 g6 b6 hap kh
          (try simp only [List.getElem_toArray, List.getElem_cons_succ, List.getElem_cons_zero, Act.put, List.setIfInBounds_toArray, List.set_cons_zero, List.set_cons_succ])
          repeat (first | (refine wpSeqB_pure (v := ?_) rfl ?_ ?_; rotate_left 1; (focus (intro wq_ hSq_; (try dsimp only at hSq_); go_simp; (try with_reducible rfl); done)); (try simp only [Act.put, List.setIfInBounds_toArray, List.set_cons_zero, List.set_cons_succ])) | (refine wpSeqB_pureG (v := ?_) rfl rfl ?_ ?_; rotate_left 1; (focus (intro wq_ hSq_; (try dsimp only at hSq_); go_simp; (try with_reducible rfl); done)); (try simp only [Act.put, List.setIfInBounds_toArray, List.set_cons_zero, List.set_cons_succ])) | (refine wpSeqB_off rfl rfl ?_; (try simp only [Act.put, List.setIfInBounds_toArray, List.set_cons_zero, List.set_cons_succ])) | (refine wpSeqB_offU rfl ?_; (try simp only [Act.put, List.setIfInBounds_toArray, List.set_cons_zero, List.set_cons_succ])))
          first | refine wpSeqB_call rfl (fun K hK => ?_) | refine wpSeqB_callG rfl rfl (fun K hK => ?_)
          go_simp
          have kh := HAP.out.hd.cells
          simp only [cellsAre, Nat.zero_add, Nat.reduceAdd, and_true] at kh
          have s4 := kh.2.1
          refine hK.out _ _ s4 ?_
          clear hK K kh
          (try simp only [List.getElem_toArray, List.getElem_cons_succ, List.getElem_cons_zero, Act.put, List.setIfInBounds_toArray, List.set_cons_zero, List.set_cons_succ])
          intro s_
          refine wpB_end (by kernel_rfl) ?_
          clear s_
          go_wp2
          go_roundw
          case rel => exact ⟨j + 1, A6, c6, B1, D1, _, by omega, by go_num, HAP.out⟩
          case measure => simp [intOf]; omega
    · obtain rfl : j = m := by omega
      have hH := HW.out
      have hsi : SI F wr s d keep vs B false bl false left := ⟨⟨A5, j, c5, hH.se, own_lower hH.ow (Nat.zero_le _)⟩, HD.out.ext hH.ex, HF2.out, fun v hv => (hH.tr v hv).1, hH.ld.bz, hH.ld.bm⟩
      have HA := Lib.hid (show ReA F wr d bl left keep B0 vs0 s vs B from ⟨hsi, by
        have := hH.eq
        rw [List.take_of_length_le (by rw [HM.out]; exact Nat.le_refl _)] at this
        exact this, fun v hv => (hH.tr v hv).2⟩)
      have kl := hH.ld.ld.cells
      simp only [cellsAre, Nat.zero_add, Nat.reduceAdd, and_true] at kl
      have HX := Lib.hid hH.ex
      clear hH hsi HW
      go_wp2
      go_returns
      exact ⟨_, rfl, ⟨s, vs, B, rfl, HA.out⟩, HX.out⟩
end Go.Proofs.Tb
