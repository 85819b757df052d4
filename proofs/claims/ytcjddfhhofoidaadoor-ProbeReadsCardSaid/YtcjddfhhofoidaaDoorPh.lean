/- Rows of pairs of a number and a list (tests, branches of a plan) in memory; contract of probe's plan. -/
import Derived.Test.YtcjddfhhofoidaaDoorPf
import Derived.Test.YtcjddfhhofoidaaDoorPg
set_option linter.unusedVariables false
set_option linter.unusedSimpArgs false
namespace Go.Proofs.Tb
open Go.RowKit
attribute [local go_sem] cell_set_same

theorem own_tag {base : Nat} {w : World} {v : Value} {n k : Nat} {xs : List Value} {T T' : TypeId} (h : w.ownsRow base T k v n xs) (hT : T ≠ T') : ∀ g, v.ownBlock = some g → ∀ cs fr, w.heap[g]? ≠ some (.cells cs T' fr) := by
  intro g hg cs fr hb
  rcases h.2 with ⟨rfl, _⟩ | ⟨g', cap, cur, rfl, _, hh, _⟩
  · simp [Value.ownBlock] at hg
  · simp [Value.ownBlock] at hg
    subst hg
    rw [hh] at hb
    injection hb with hb
    injection hb with _ hb
    exact hT hb
theorem SL.grown {T : TypeId} {w w' : World} {v : Value} {xs : List Value} {row : Option Nat} (h : SL T w v xs) (hg : w.grownBy w' row) (hr : ∀ g, row = some g → ∀ cs fr, w.heap[g]? ≠ some (.cells cs T fr)) : SL T w' v xs := by
  obtain ⟨A, n, c, hv, h⟩ := h
  exact ⟨A, n, c, hv, h.keep fun b cs fr hb => hg.block b (block_lt hb) (fun e => hr b e.symm cs fr hb)⟩
theorem SL.il {w : World} {v : Value} {xs : List Int} (h : SL TIN w v (ic xs)) : ∃ A c, v = .slice A xs.length c ∧ Il w A xs.length c xs := by
  obtain ⟨A, n, c, rfl, h⟩ := h
  have hl : xs.length = n := by have := h.len; simpa [ic] using this
  subst hl
  refine ⟨A, c, rfl, ⟨rfl, h.le, h.cap, fun h0 => ?_⟩⟩
  obtain ⟨b, o, hA, _, hc⟩ := h.at_ h0
  refine ⟨b, o, hA, fun j hj => ?_⟩
  rw [hc j hj]
  simp [ic, List.getD, hj]
theorem SL.nilI (w : World) : SL TIN w (.slice none 0 0) (ic []) := ⟨_, _, _, rfl, Sl.nil _ _⟩
theorem OwI.sl {base : Nat} {w : World} {v : Value} {xs : List Int} (h : OwI base w v xs) : SL TIN w v (ic xs) := Sl.of_own h
/-- The cells of a pair. -/
def prE (x : Int × Value) : List Value := [.int .i64 x.1, x.2]
/-- The pairs d read as the tests (or branches) bs. -/
def PrW (w : World) : List (Int × Value) → List Tt → Prop
  | [], [] => True
  | x :: d, b :: bs => (x.1 = b.1 ∧ SL TIN w x.2 (ic b.2)) ∧ PrW w d bs
  | _, _ => False
theorem PrW.len {w : World} : ∀ {d : List (Int × Value)} {bs : List Tt}, PrW w d bs → d.length = bs.length
  | [], [], _ => rfl
  | _ :: d, _ :: bs, h => by rw [List.length_cons, List.length_cons, PrW.len h.2]
theorem PrW.app {w : World} {d' : List (Int × Value)} {bs' : List Tt} (h' : PrW w d' bs') : ∀ {d : List (Int × Value)} {bs : List Tt}, PrW w d bs → PrW w (d ++ d') (bs ++ bs')
  | [], [], _ => h'
  | _ :: d, _ :: bs, h => ⟨h.1, PrW.app h' h.2⟩
theorem PrW.one {w : World} {x : Int} {u : Value} {xs : List Int} (h : SL TIN w u (ic xs)) : PrW w [(x, u)] [(x, xs)] := ⟨⟨rfl, h⟩, trivial⟩
theorem PrW.imp {w w' : World} (hk : ∀ v xs, SL TIN w v (ic xs) → SL TIN w' v (ic xs)) : ∀ {d : List (Int × Value)} {bs : List Tt}, PrW w d bs → PrW w' d bs
  | [], [], _ => trivial
  | _ :: d, _ :: bs, h => ⟨⟨h.1.1, hk _ _ h.1.2⟩, PrW.imp hk h.2⟩
theorem PrW.below {w w' : World} {d : List (Int × Value)} {bs : List Tt} (h : PrW w d bs) (hb : Below w.heap.size w w') : PrW w' d bs := h.imp fun _ _ hs => hs.below hb
theorem PrW.get {w : World} : ∀ {d : List (Int × Value)} {bs : List Tt}, PrW w d bs → ∀ j (hj : j < bs.length), ∃ x u, d[j]? = some (x, u) ∧ x = tC bs j ∧ SL TIN w u (ic (tS bs j))
  | [], [], _, j, hj => by simp at hj
  | x :: d, b :: bs, h, 0, _ => ⟨x.1, x.2, rfl, h.1.1, h.1.2⟩
  | x :: d, b :: bs, h, j + 1, hj => by
    obtain ⟨y, u, h1, h2, h3⟩ := PrW.get h.2 j (by simpa using hj)
    exact ⟨y, u, by simpa using h1, h2, h3⟩
theorem prE_len (d : List (Int × Value)) : ∀ x, x ∈ d → (prE x).length = 2 := fun _ _ => rfl
theorem PrW.one_cell {w : World} : ∀ {d : List (Int × Value)} {bs : List Tt}, PrW w d bs → ∀ u, u ∈ cel prE d → u.oneCell' = true
  | [], [], _, u, hu => by cases hu
  | x :: d, b :: bs, h, u, hu => by
    have e : cel prE (x :: d) = prE x ++ cel prE d := rfl
    rw [e, List.mem_append] at hu
    rcases hu with hu | hu
    · obtain ⟨A, n, c, hv, _⟩ := h.1.2
      unfold prE at hu
      rw [hv] at hu
      rcases List.mem_cons.1 hu with rfl | hu
      · rfl
      · rcases List.mem_cons.1 hu with rfl | hu
        · rfl
        · cases hu
    · exact PrW.one_cell h.2 u hu
/-- v owns a row of pairs, of element type T, in a block from base on. -/
def OwP (T : TypeId) (base : Nat) (w : World) (v : Value) (bs : List Tt) : Prop := ∃ d, w.ownsRow base T 2 v d.length (cel prE d) ∧ PrW w d bs
theorem OwP.nil (T : TypeId) (base : Nat) (w : World) : OwP T base w (.slice none 0 0) [] := ⟨[], ⟨rfl, Or.inl ⟨rfl, rfl⟩⟩, trivial⟩
theorem OwP.below {T : TypeId} {base : Nat} {w w' : World} {v : Value} {bs : List Tt} (h : OwP T base w v bs) (hb : Below w.heap.size w w') : OwP T base w' v bs := by
  obtain ⟨d, h1, h2⟩ := h
  exact ⟨d, own_below h1 hb, h2.below hb⟩
/-- A slice of pairs that may be read, of element type T. -/
structure SlP (T : TypeId) (w : World) (A : Option Addr) (n c : Nat) (bs : List Tt) : Prop where
  len : bs.length = n
  le : n ≤ c
  cap : c ≤ 9223372036854775807
  ex : ∃ d, PrW w d bs ∧ (0 < n → ∃ b o, A = some ⟨b, o, none⟩ ∧ (∃ cs fr, w.heap[b]? = some (.cells cs T fr)) ∧ ∀ j u, (cel prE d)[j]? = some u → w.cell? ⟨b, o + j, none⟩ = some u)
theorem SlP.below {T : TypeId} {w w' : World} {A : Option Addr} {n c : Nat} {bs : List Tt} (h : SlP T w A n c bs) (hb : Below w.heap.size w w') : SlP T w' A n c bs := by
  obtain ⟨d, h1, h2⟩ := h.ex
  refine ⟨h.len, h.le, h.cap, d, h1.below hb, fun h0 => ?_⟩
  obtain ⟨b, o, hA, ⟨cs, fr, hT⟩, hc⟩ := h2 h0
  have hbl := hb.block b (block_lt hT)
  exact ⟨b, o, hA, ⟨cs, fr, hbl.trans hT⟩, fun j u hj => (World.cell?_of_block (w := w) (a := ⟨b, o + j, none⟩) hbl).trans (hc j u hj)⟩
theorem SlP.ts {T : TypeId} {w : World} {A : Option Addr} {n c : Nat} {bs : List Tt} (h : SlP T w A n c bs) : Ts w A n c bs := by
  obtain ⟨d, h1, h2⟩ := h.ex
  refine ⟨h.len, h.le, h.cap, fun h0 => ?_⟩
  obtain ⟨b, o, hA, _, hc⟩ := h2 h0
  refine ⟨b, o, hA, fun j hj => ?_⟩
  obtain ⟨x, u, e, hx, hu⟩ := h1.get j (by rw [h.len]; exact hj)
  have hjd : j < d.length := by rw [h1.len, h.len]; exact hj
  have ed : d[j] = (x, u) := by rw [List.getElem?_eq_getElem hjd] at e; injection e
  have g0 := cel_get (prE_len d) hjd (show 0 < 2 by omega)
  have g1 := cel_get (prE_len d) hjd (show 1 < 2 by omega)
  rw [ed] at g0 g1
  have c0 := hc _ _ (g0.trans rfl)
  have c1 := hc _ _ (g1.trans rfl)
  rw [Nat.add_zero] at c0
  rw [← Nat.add_assoc] at c1
  obtain ⟨A', c', rfl, hil⟩ := hu.il
  exact ⟨by rw [c0, hx], A', _, c', c1, hil⟩
theorem OwP.slp {T : TypeId} {base : Nat} {w : World} {v : Value} {bs : List Tt} (h : OwP T base w v bs) : ∃ A c, v = .slice A bs.length c ∧ SlP T w A bs.length c bs := by
  obtain ⟨d, h1, h2⟩ := h
  have hl := h2.len
  have h0 := h1
  rcases h1.2 with ⟨hv, hn⟩ | ⟨g, cap, cur, hv, _, hh, hn, hm, hs, ht⟩
  · refine ⟨none, 0, by rw [hv, ← hl, hn], by omega, by omega, by omega, d, h2, fun h => by omega⟩
  · rw [hl] at hv hn
    refine ⟨_, cap, hv, ⟨rfl, hn, by simpa [maxLen] using hm, d, h2, fun _ => ⟨g, 0, rfl, ⟨cur, _, hh⟩, fun j u hj => ?_⟩⟩⟩
    have hjl : j < d.length * 2 := by
      rcases Nat.lt_or_ge j (d.length * 2) with h | h
      · exact h
      · rw [List.getElem?_eq_none (by rw [cel_len (prE_len d)]; exact h)] at hj; cases hj
    subst hv
    rw [← hl] at h0
    have := h0.cellAt (g := g) (cap := cap) j hjl
    rw [Nat.zero_add, this, hj]
/-- One more pair in a row that the call owns. -/
theorem OwP.snoc {T : TypeId} {base : Nat} {w w' : World} {v v' u : Value} {d : List (Int × Value)} {bs : List Tt} {x : Int} {xs : List Int} (hT : T ≠ TIN) (h1 : w.ownsRow base T 2 v d.length (cel prE d)) (h2 : PrW w d bs) (hu : SL TIN w u (ic xs))
    (ho : w'.ownsRow base T 2 v' (d.length + 1) (cel prE d ++ [.int .i64 x, u])) (hg : w.grownBy w' v.ownBlock) : OwP T base w' v' (bs ++ [(x, xs)]) := by
  refine ⟨d ++ [(x, u)], ?_, (PrW.app (PrW.one hu) h2).imp fun _ _ hs => hs.grown hg (own_tag h1 hT)⟩
  rw [List.length_append, cel_app]
  exact ho
/-- More pairs in a row that the call owns. -/
theorem OwP.cat {T : TypeId} {base : Nat} {w w' : World} {v v' : Value} {d d' : List (Int × Value)} {bs bs' : List Tt} {m : Nat} (hT : T ≠ TIN) (h1 : w.ownsRow base T 2 v d.length (cel prE d)) (h2 : PrW w d bs) (h3 : PrW w d' bs') (hm : d'.length = m)
    (ho : w'.ownsRow base T 2 v' (d.length + m) (cel prE d ++ cel prE d')) (hg : w.grownBy w' v.ownBlock) : OwP T base w' v' (bs ++ bs') := by
  refine ⟨d ++ d', ?_, (PrW.app h3 h2).imp fun _ _ hs => hs.grown hg (own_tag h1 hT)⟩
  rw [List.length_append, cel_app, hm]
  exact ho
theorem pr_one {x : Int} {A : Option Addr} {n c : Nat} : ∀ u, u ∈ [Value.int .i64 x, .slice A n c] → u.oneCell' = true := fun u hu => by
  rcases List.mem_cons.1 hu with rfl | hu
  · rfl
  · rw [List.mem_singleton] at hu; subst hu; rfl
abbrev TBR : TypeId := 52
abbrev TBS : TypeId := 27
theorem br_info : (Tryd.prog.info? TBR).map (fun i => (i.zero, i.size, i.bytes)) = some (some (.agg #[.int .i64 0, .slice none 0 0]), 2, 32) := by kernel_rfl
/-- What plan reads: the plans in block g, the sets of the tests, the table of math/bits. -/
def PlF (tv : Value) (ws : List Int) (ts : List Tt) (g : Nat) (A : Option Addr) (c : Nat) (W : World) : Prop :=
  PB W g (plG tv (.slice A ts.length c) (pW ws) (pC ws ts) (pT ws ts) (2 ^ ws.length) 0 0 0) ∧ Il W A ts.length c (shL ts ts.length) ∧ Tab W
def PlK (base : Nat) (w : World) (tv : Value) (ws : List Int) (ts : List Tt) (g : Nat) (A : Option Addr) (c : Nat) : Prop := ∀ W, Below base w W → PlF tv ws ts g A c W
theorem PlK.trans {base : Nat} {w w' : World} {tv : Value} {ws : List Int} {ts : List Tt} {g : Nat} {A : Option Addr} {c : Nat} (h : PlK base w tv ws ts g A c) (hb : Below base w w') : PlK base w' tv ws ts g A c := fun W hW => h W (hb.trans hW)
theorem SolR.plk {tv : Value} {ws : List Int} {ts : List Tt} {g : Nat} {w : World} (h : SolR tv ws ts g w) (ht : Tab w) : ∃ A c, PlK w.heap.size w tv ws ts g A c := by
  obtain ⟨sv, h1, h2⟩ := h.ex
  obtain ⟨A, c, rfl, hil⟩ := h2.il2 (shL_len ts ts.length)
  exact ⟨A, c, fun W hW => ⟨h1.below hW, hil.below hW, ht.below hW⟩⟩
def plL (ws : List Int) (ts : List Tt) (s : Nat) : List Tt := pln (wsN ws) (tsN ts) ws.length s
theorem plL_end {ws : List Int} {ts : List Tt} {s : Nat} (h : pT ws ts s = -1) : plL ws ts s = [(-1, mems ws.length s)] := pln_end h
theorem plL_len (ws : List Int) (ts : List Tt) (s : Nat) : (plL ws ts s).length ≤ 2 * s - 2 + 1 := pln_len _ _ _ _
theorem plL_test {ws : List Int} {ts : List Tt} {s : Nat} (h : pT ws ts s ≠ -1) : ∃ i, i < ts.length ∧ pT ws ts s = (i : Int) ∧ inn s (shw ts i) ≠ 0 ∧ outs s (shw ts i) ≠ 0 ∧
    plL ws ts s = ((i : Int), []) :: (plL ws ts (inn s (shw ts i)) ++ plL ws ts (outs s (shw ts i))) := by
  rcases bst_inv (wsN ws) (tsN ts) s with hv | ⟨i, hi, e, a1, a2, _⟩
  · exact absurd (show pT ws ts s = -1 by unfold pT; rw [hv]) h
  · have hp := pln_test (n := ws.length) e a1 a2
    rw [tsN_get] at a1 a2 hp
    rw [tsN_len] at hi
    exact ⟨i, hi, e, a1, a2, hp⟩
set_option maxHeartbeats 6400000 in
set_option maxRecDepth 100000 in
theorem rplan_any (tv : Value) (ws : List Int) (ts : List Tt) (hv : Cv ws ts) (g : Nat) (A3 : Option Addr) (c3 base : Nat) : ∀ (s : Nat), s < 2 ^ ws.length → ∀ (bs : List Tt) (v : Value) (w : World), base ≤ w.heap.size → PlK base w tv ws ts g A3 c3 →
    OwP TBR base w v bs → bs.length + 2 * s + 1 ≤ 1000000 →
    Calls Tryd.prog 46 #[.pointer (some ⟨g, 0, none⟩), v, .int .i64 (s : Int)] w fun e w' => ∃ v', e = .returned v' ∧ OwP TBR base w' v' (bs ++ plL ws ts s) ∧ Below base w w' := by
  intro s
  induction s using Nat.strongRecOn with
  | _ s ih =>
    intro hs bs v w hbase hk hown hlen
    have hs1 : s < 1024 := Nat.lt_of_lt_of_le hs (pow_le_1024 hv.len10)
    have ps1 : (s : Int) < 1024 := by omega
    have HK := Lib.hid hk
    have HS := Lib.hid hs
    have HO := Lib.hid hown
    have IH := Lib.hid ih
    have HV := Lib.hid hv
    have c1 : w.cell? ⟨g, 2050 + s, none⟩ = some (.int .i64 (pT ws ts s)) := by
      have h1 := (hk w (Below.refl _ _)).1.cell (j := 2050 + s) (by omega)
      rw [plG_t, if_pos hs] at h1
      exact h1
    clear ih hown hk hs
    by_cases hT : pT ws ts s = -1
    · rw [hT] at c1
      have HP := Lib.hid (plL_end hT)
      clear hT
      go_enter Tryd.func46, Tryd.ntmps46
      go_wp2_with fail
      refine (rlist_any ws.length s (by have := HV.out.len10; omega) HS.out w (HK.out w (Below.refl _ _)).2.2).mono ?_
      rintro e w1 ⟨v1, rfl, hv1, hb1⟩
      have hus := hv1.sl
      obtain ⟨A1, c1', hve, hil1⟩ := hv1.il
      subst hve
      obtain ⟨n1, hn1⟩ : ∃ n1, (mems ws.length s).length = n1 := ⟨_, rfl⟩
      rw [hn1] at hus hil1 ⊢
      have hl1 := hil1.le
      have hl2 := hil1.cap
      have hsz : base ≤ w1.heap.size := Nat.le_trans hbase hb1.size
      obtain ⟨d, hrow, hpr⟩ := HO.out.below hb1
      have hdl := hpr.len
      have HR := Lib.hid (And.intro hrow (And.intro hpr hus))
      have HB1 := Lib.hid hb1
      clear hv1 hus hil1 hn1 hrow hpr hb1 HO
      have hal : Ext w1 (w1.alloc (.cells #[.int .i64 (-1), .slice A1 n1 c1'] TBR)) := Ext.allocR _ _
      have HAL := Lib.hid hal
      clear hal
      go_wp2_with (at_builtin; refine wp_appE TBS TBR _ 2 32 br_info Tryd.underlying27 rfl (by omega) (by omega) rfl _ _ rfl base v d.length (cel prE d) rfl (own_below HR.out.1 HAL.out) ⟨w1.heap.size, 0, none⟩ 1 1 [.int .i64 (-1), .slice A1 n1 c1'] rfl rfl (cell_new w1 [.int .i64 (-1), .slice A1 n1 c1'] TBR) pr_one (by omega) (by omega) (by simp; omega) ?_; intro v3 w3 hown3 hb3 hg3)
      have HN : OwP TBR base w3 v3 (bs ++ [(-1, mems ws.length s)]) := OwP.snoc (by decide) (own_below HR.out.1 HAL.out) (HR.out.2.1.below HAL.out) (HR.out.2.2.below HAL.out) hown3 hg3
      have HN2 : Below base w w3 := (HB1.out.mono hbase).trans (((Below.refl base w1).alloc hsz _).trans hb3)
      clear hown3 hb3 hg3 HR
      go_wp2
      go_returns
      exact ⟨_, rfl, by rw [HP.out]; exact HN, HN2⟩
    · obtain ⟨i, hi, hTi, hin, hou, hpl⟩ := plL_test hT
      rw [hTi] at c1
      have hio := in_out s (shw ts i)
      have hM := hv.shw_1024 hi
      have hi16 : i < 16 := Nat.lt_of_lt_of_le hi hv.1.2.2
      have ki : (i : Int) ≠ -1 := by omega
      have pi_ : (i : Int) < (ts.length : Int) := by omega
      have wand := i64_and s (shw ts i) (by omega) (by omega)
      have wnot := i64_andNot s (shw ts i) (by omega) (by omega)
      obtain ⟨M, hMe⟩ : ∃ M, shw ts i = M := ⟨_, rfl⟩
      rw [hMe] at hin hou hpl hio wand wnot hM
      have wand' : bits .and .i64 (s : Int) (M : Int) = ((inn s M : Nat) : Int) := wand
      obtain ⟨I, hI⟩ : ∃ I, inn s M = I := ⟨_, rfl⟩
      obtain ⟨O, hO⟩ : ∃ O, outs s M = O := ⟨_, rfl⟩
      rw [hI] at hin hpl hio wand'
      rw [hO] at hou hpl hio wnot
      have hlI := plL_len ws ts I
      have HPL := Lib.hid hpl
      have kf : ∀ W, Below base w W → W.cell? ⟨g, 1, none⟩ = some (.slice A3 ts.length c3) ∧ ∃ b3 o3, A3 = some ⟨b3, o3, none⟩ ∧ W.cell? ⟨b3, o3 + i, none⟩ = some (.int .i64 (M : Int)) := fun W hW => by
        obtain ⟨h1, h2, _⟩ := HK.out W hW
        refine ⟨h1.cell (j := 1) (by omega), ?_⟩
        obtain ⟨b3, o3, hA, hc⟩ := h2.at_ (by omega)
        refine ⟨b3, o3, hA, ?_⟩
        rw [hc i hi, shL_get ts hi, hMe]
      have hil3 := (HK.out w (Below.refl _ _)).2.1
      have hl3 := hil3.le
      have hl3' := hil3.cap
      obtain ⟨b3, o3, rfl, _⟩ := (kf w (Below.refl _ _)).2
      have kf2 : ∀ W, Below base w W → W.cell? ⟨g, 1, none⟩ = some (.slice (some ⟨b3, o3, none⟩) ts.length c3) ∧ W.cell? ⟨b3, o3 + i, none⟩ = some (.int .i64 (M : Int)) := fun W hW => by
        obtain ⟨h1, b', o', hA, hc⟩ := kf W hW
        injection hA with hA
        injection hA with e1 e2 _
        subst e1 e2
        exact ⟨h1, hc⟩
      have KF := Lib.hid kf2
      have hIs : I < s := by omega
      have hOs : O < s := by omega
      have HIs := Lib.hid (Nat.lt_of_le_of_lt (Nat.le_of_lt hIs) HS.out)
      have HOs := Lib.hid (Nat.lt_of_le_of_lt (Nat.le_of_lt hOs) HS.out)
      obtain ⟨m, hm⟩ : ∃ m, ts.length = m := ⟨_, rfl⟩
      rw [hm] at KF hi pi_ hl3
      obtain ⟨d, hrow, hpr⟩ := HO.out
      have hdl := hpr.len
      have HR := Lib.hid (And.intro hrow hpr)
      have HAL := Lib.hid (Ext.allocR w (.cells #[.int .i64 (i : Int), .slice none 0 0] TBR))
      clear hT hTi hpl hMe wand hI hO hil3 kf kf2 hrow hpr HO hm
      go_enter Tryd.func46, Tryd.ntmps46
      go_wp2_with (at_builtin; refine wp_appE TBS TBR _ 2 32 br_info Tryd.underlying27 rfl (by omega) (by omega) rfl _ _ rfl base v d.length (cel prE d) rfl (own_below HR.out.1 HAL.out) ⟨w.heap.size, 0, none⟩ 1 1 [.int .i64 (i : Int), .slice none 0 0] rfl rfl (cell_new w [.int .i64 (i : Int), .slice none 0 0] TBR) pr_one (by omega) (by omega) (by simp; omega) ?_; intro v3 w3 hown3 hb3 hg3; have HN := Lib.hid (show OwP TBR base w3 v3 (bs ++ [((i : Int), [])]) from OwP.snoc (by decide) (own_below HR.out.1 HAL.out) (HR.out.2.below HAL.out) (SL.nilI _) hown3 hg3); have HN2 := Lib.hid (show Below base w w3 from ((Below.refl base w).alloc hbase _).trans hb3); obtain ⟨kc1, kc2⟩ := KF.out w3 HN2.out; clear hown3 hb3 hg3 HR)
      refine (IH.out I hIs HIs.out _ v3 w3 (Nat.le_trans hbase HN2.out.size) (HK.out.trans HN2.out) HN.out (by rw [List.length_append]; simp only [List.length_singleton]; omega)).mono ?_
      rintro e w4 ⟨v4, rfl, ho4, hb4⟩
      have HO4 := Lib.hid ho4
      have HB4 := Lib.hid (HN2.out.trans hb4)
      clear ho4 hb4 HN HN2 kc1 kc2
      obtain ⟨kc1, kc2⟩ := KF.out w4 HB4.out
      go_wp2_with fail
      refine (IH.out O hOs HOs.out _ v4 w4 (Nat.le_trans hbase HB4.out.size) (HK.out.trans HB4.out) HO4.out (by rw [List.length_append, List.length_append]; simp only [List.length_singleton]; omega)).mono ?_
      rintro e w5 ⟨v5, rfl, ho5, hb5⟩
      have HO5 : Hid (OwP TBR base w5 v5 (bs ++ plL ws ts s)) := by rw [HPL.out]; have h := ho5; rw [List.append_assoc, List.append_assoc] at h; exact h
      have HB5 := Lib.hid (HB4.out.trans hb5)
      clear ho5 hb5
      go_wp2
      go_returns
      exact ⟨_, rfl, HO5.out, HB5.out⟩
end Go.Proofs.Tb
