/- Contract of probe.codes: it joins the two least nodes again and again. -/
import Derived.Test.YtcjddfhhofoidaaDoorHuf
set_option linter.unusedVariables false
set_option linter.unusedSimpArgs false
namespace Go.Proofs.Tb
open Go.RowKit
attribute [local go_sem] cell_set_same

theorem nd_info : (Tryd.prog.info? TND).map (fun i => (i.zero, i.size, i.bytes)) = some (some (.agg #[.int .i64 0, .slice none 0 0]), 2, 32) := by kernel_rfl
def slN : Value → Nat
  | .slice _ n _ => n
  | _ => 0
def leavesK (ws : List Int) (k : Nat) : List Tt := (List.range k).map fun (i : Nat) => (ws.getD i 0, [(i : Int)])
theorem leavesK_succ (ws : List Int) (k : Nat) : leavesK ws (k + 1) = leavesK ws k ++ [(ws.getD k 0, [(k : Int)])] := by unfold leavesK; rw [List.range_succ, List.map_append]; rfl
theorem leavesK_len (ws : List Int) (k : Nat) : (leavesK ws k).length = k := by simp [leavesK]
theorem SL.lit1 {w : World} {g : Nat} {x : Int} (h : Blk w g TIN #[.int .i64 x]) : SL TIN w (.slice (some ⟨g, 0, none⟩) 1 1) (ic [x]) :=
  ⟨_, _, _, rfl, ⟨rfl, Nat.le_refl _, by omega, fun _ => ⟨g, 0, rfl, ⟨_, _, h⟩, fun j hj => by
    rw [Nat.zero_add, cell_of_row _ _ j _ TIN (0, 0) h]
    obtain rfl : j = 0 := by omega
    rfl⟩⟩⟩
set_option maxHeartbeats 1600000 in
theorem lvalues_any (A : Option Addr) (n c : Nat) (w : World) : Calls Tryd.prog 75 #[.slice A n c] w fun e w' => e = .returned (.func (.func 88) #[] #[.pointer (some ⟨w.heap.size, 0, none⟩)]) ∧ w' = w.alloc (.cells #[.slice A n c] TIS) := by
  go_enter Tryd.func75, Tryd.ntmps75
  go_wp2
  go_returns
  exact ⟨rfl, rfl⟩
theorem make_I (n : Nat) (hn : n ≤ 1000000) (W : World) : (Instr.makeSlice TIS (.int .i64 (n : Int)) (.int .i64 (n : Int))).run Tryd.prog W = .ok (.slice (some ⟨W.heap.size, 0, none⟩) n n) (W.alloc (.cells (ic (List.replicate n 0)).toArray TIN)) := by
  obtain ⟨i, hi, hz, hs, hb⟩ := info_parts int_info
  have hm : madeCells (Value.cells (.int .i64 0)) (n * 1) = (ic (List.replicate n 0)).toArray := by
    apply Array.ext'
    apply List.ext_getElem?
    intro j
    simp only [madeCells, ic, Nat.mul_one, Array.toList_map, Value.cells]
    by_cases hj : j < n
    · simp [hj, Nat.mod_one]
    · simp [hj]
  rw [run_make (P := Tryd.prog) W TIS TIN i _ Tryd.underlying37 hi hz .i64 .i64 n n (by omega) (by omega) (by rw [hb]; omega) (by omega)]
  simp only [Int.toNat_natCast, hs, hm]
theorem OwI.il3 {base : Nat} {w : World} {v : Value} {xs : List Int} (h : OwI base w v xs) : ∃ A n c, v = .slice A n c ∧ Il w A n c xs := by
  obtain ⟨A, c, h1, h2⟩ := h.il
  exact ⟨A, _, c, h1, h2⟩
/-- The lengths, in block L, which alone may be written. -/
def LB (w : World) (L : Nat) (ls : List Int) : Prop := Blk w L TIN (ic ls).toArray
theorem LB.cell {w : World} {L : Nat} {ls : List Int} (h : LB w L ls) {j : Nat} (hj : j < ls.length) : w.cell? ⟨L, j, none⟩ = some (.int .i64 (ls.getD j 0)) := by
  rw [cell_of_row w L j _ TIN (0, 0) h]
  simp [ic, List.getD, hj]
theorem LB.set_ {w : World} {L : Nat} {ls : List Int} (h : LB w L ls) (j : Nat) (v : Int) : LB (w.setCell ⟨L, j, none⟩ (.int .i64 v)) L (ls.set j v) := by
  have h1 := Blk.set_ h j (.int .i64 v)
  unfold LB ic
  rw [List.map_set]
  simpa [ic] using h1
theorem LB.il {w : World} {L : Nat} {ls : List Int} {n : Nat} (h : LB w L ls) (hl : ls.length = n) (hn : n ≤ 1000000) : Il w (some ⟨L, 0, none⟩) n n ls :=
  ⟨hl, Nat.le_refl _, by omega, fun _ => ⟨L, 0, rfl, fun j hj => by rw [Nat.zero_add]; exact h.cell (by omega)⟩⟩
/-- v is a row of nodes that the call owns, apart from block L. -/
def NB (base L : Nat) (w : World) (v : Value) (bs : List Tt) : Prop := ∃ g o n cap d, v = .slice (some ⟨g, o, none⟩) n cap ∧ RoO TND base w g o n cap d ∧ PrW w d bs ∧ ∀ p ∈ d, p.2.ownBlock ≠ some L
theorem NB.below {base L : Nat} {w w' : World} {v : Value} {bs : List Tt} (h : NB base L w v bs) (hb : Below w.heap.size w w') : NB base L w' v bs := by
  obtain ⟨g, o, n, cap, d, hv, h1, h2, h3⟩ := h
  exact ⟨g, o, n, cap, d, hv, h1.below hb, h2.below hb, h3⟩
theorem SL.far {w : World} {v : Value} {xs : List Int} {p : Addr} {u : Value} (h : SL TIN w v (ic xs)) (hx : xs ≠ []) (hv : v.ownBlock ≠ some p.block) : SL TIN (w.setCell p u) v (ic xs) := by
  obtain ⟨A, n, c, rfl, h⟩ := h
  refine ⟨A, n, c, rfl, ⟨h.len, h.le, h.cap, fun h0 => ?_⟩⟩
  obtain ⟨b, o, rfl, ⟨cs, fr, hT⟩, hc⟩ := h.at_ h0
  have hne : b ≠ p.block := fun e => hv (by rw [← e]; rfl)
  have hb : (w.setCell p u).heap[b]? = w.heap[b]? := Below.heap_setCell w p u b hne
  exact ⟨b, o, rfl, ⟨cs, fr, hb.trans hT⟩, fun j hj => (World.cell?_of_block (w := w) (a := ⟨b, o + j, none⟩) hb).trans (hc j hj)⟩
theorem PrW.far {w : World} {p : Addr} {u : Value} : ∀ {d : List (Int × Value)} {bs : List Tt}, PrW w d bs → (∀ b ∈ bs, b.2 ≠ []) → (∀ q ∈ d, q.2.ownBlock ≠ some p.block) → PrW (w.setCell p u) d bs
  | [], [], _, _, _ => trivial
  | _ :: d, _ :: bs, h, hn, ho => ⟨⟨h.1.1, h.1.2.far (hn _ (List.mem_cons_self ..)) (ho _ (List.mem_cons_self ..))⟩, PrW.far h.2 (fun b hb => hn b (List.mem_cons_of_mem _ hb)) (fun q hq => ho q (List.mem_cons_of_mem _ hq))⟩
/-- What keeps all blocks but L keeps the nodes. -/
theorem SL.kept {w w' : World} {L : Nat} {v : Value} {xs : List Int} (h : SL TIN w v (ic xs)) (hx : xs ≠ []) (hv : v.ownBlock ≠ some L) (hk : ∀ b, b < w.heap.size → b ≠ L → w'.heap[b]? = w.heap[b]?) : SL TIN w' v (ic xs) := by
  obtain ⟨A, n, c, rfl, h⟩ := h
  refine ⟨A, n, c, rfl, ⟨h.len, h.le, h.cap, fun h0 => ?_⟩⟩
  obtain ⟨b, o, rfl, ⟨cs, fr, hT⟩, hc⟩ := h.at_ h0
  have hb : w'.heap[b]? = w.heap[b]? := hk b (block_lt hT) (fun e => hv (by rw [← e]; rfl))
  exact ⟨b, o, rfl, ⟨cs, fr, hb.trans hT⟩, fun j hj => (World.cell?_of_block (w := w) (a := ⟨b, o + j, none⟩) hb).trans (hc j hj)⟩
theorem PrW.kept {w w' : World} {L : Nat} (hk : ∀ b, b < w.heap.size → b ≠ L → w'.heap[b]? = w.heap[b]?) : ∀ {d : List (Int × Value)} {bs : List Tt}, PrW w d bs → (∀ b ∈ bs, b.2 ≠ []) → (∀ q ∈ d, q.2.ownBlock ≠ some L) → PrW w' d bs
  | [], [], _, _, _ => trivial
  | _ :: d, _ :: bs, h, hn, ho => ⟨⟨h.1.1, h.1.2.kept (hn _ (List.mem_cons_self ..)) (ho _ (List.mem_cons_self ..)) hk⟩, PrW.kept hk h.2 (fun b hb => hn b (List.mem_cons_of_mem _ hb)) (fun q hq => ho q (List.mem_cons_of_mem _ hq))⟩
theorem RoO.back {T : TypeId} {base : Nat} {w : World} {g o n cap : Nat} {d : List (Int × Value)} (h : RoO T base w g (o + 4) n cap d) (hc : cap = 0) : RoO T base w g o n cap d := by
  obtain ⟨cs, h1, h2, h3⟩ := h.ex
  have hn : n = 0 := by have := h.le; omega
  have hd : d = [] := List.eq_nil_of_length_eq_zero (by rw [h.len, hn])
  subst hd
  exact ⟨h.base_, h.len, h.le, h.capM, cs, h1, by omega, fun j u hj => by cases hj⟩
/-- What keeps all blocks but one of pairs keeps the lists. -/
theorem PrW.keepT {w w' : World} {g : Nat} {P : Array Value → Prop} {d : List (Int × Value)} {bs : List Tt} (h : PrW w d bs) (hg : ∃ cs, w.heap[g]? = some (.cells cs TND (0, 0)) ∧ P cs) (hk : ∀ b, b < w.heap.size → b ≠ g → w'.heap[b]? = w.heap[b]?) : PrW w' d bs :=
  h.imp fun v xs hs => by
    obtain ⟨A, n, c, hv, hs⟩ := hs
    obtain ⟨cs, hc, _⟩ := hg
    refine ⟨A, n, c, hv, hs.keep fun b cs' fr hb => hk b (block_lt hb) (fun e => ?_)⟩
    subst e
    rw [hc] at hb
    injection hb with hb
    injection hb with _ e _
    cases e
theorem ro_ne {base g o n cap L : Nat} {w : World} {d : List (Int × Value)} {ls : List Int} (h1 : RoO TND base w g o n cap d) (hL : LB w L ls) : g ≠ L := by
  rintro rfl
  obtain ⟨cs, hc, _⟩ := h1.ex
  have : w.heap[g]? = some (.cells (ic ls).toArray TIN (0, 0)) := hL
  rw [hc] at this
  injection this with this
  injection this with _ e _
  cases e
/-- The two first nodes of a row. -/
theorem two_nodes {base g o n cap L : Nat} {w : World} {d : List (Int × Value)} {bs : List Tt} (h : RoO TND base w g o n cap d) (hp : PrW w d bs) (hn : 1 < n) (hno : ∀ p ∈ d, p.2.ownBlock ≠ some L) :
    ∃ a b r A1 n1 c1 A2 n2 c2, bs = a :: b :: r ∧ SL TIN w (.slice A1 n1 c1) (ic a.2) ∧ SL TIN w (.slice A2 n2 c2) (ic b.2) ∧ w.cell? ⟨g, o, none⟩ = some (.int .i64 a.1) ∧ w.cell? ⟨g, o + 1, none⟩ = some (.slice A1 n1 c1) ∧
      w.cell? ⟨g, o + 2, none⟩ = some (.int .i64 b.1) ∧ w.cell? ⟨g, o + 3, none⟩ = some (.slice A2 n2 c2) ∧ PrW w (d.drop 2) r ∧ ∀ p ∈ d.drop 2, p.2.ownBlock ≠ some L := by
  have hl := h.len
  have hd : ∀ p ∈ d.drop 2, p.2.ownBlock ≠ some L := fun p hp => hno p (List.mem_of_mem_drop hp)
  match d, bs, hp, hl with
  | x :: y :: dr, a :: b :: r, hp, _ =>
    obtain ⟨A1, n1, c1, e1, _⟩ := hp.1.2
    obtain ⟨A2, n2, c2, e2, _⟩ := hp.2.1.2
    refine ⟨a, b, r, A1, n1, c1, A2, n2, c2, rfl, by rw [← e1]; exact hp.1.2, by rw [← e2]; exact hp.2.1.2, ?_, ?_, ?_, ?_, hp.2.2, hd⟩
    · have := h.cell (j := 0) (u := .int .i64 x.1) rfl
      rw [hp.1.1] at this; exact this
    · have := h.cell (j := 1) (u := x.2) rfl
      rw [e1] at this; exact this
    · have := h.cell (j := 2) (u := .int .i64 y.1) rfl
      rw [hp.2.1.1] at this; exact this
    · have := h.cell (j := 3) (u := y.2) rfl
      rw [e2] at this; exact this
  | [], _, _, hl => simp at hl; omega
  | [_], _, _, hl => simp at hl; omega
/-- Writing a length leaves the nodes. -/
theorem NB.set_ {base L j : Nat} {w : World} {v u : Value} {bs : List Tt} {ls : List Int} (h : NB base L w v bs) (hL : LB w L ls) (hn : ∀ b ∈ bs, b.2 ≠ []) : NB base L (w.setCell ⟨L, j, none⟩ u) v bs := by
  obtain ⟨g, o, n, cap, d, hv, h1, h2, h3⟩ := h
  have hg : g ≠ L := by
    rintro rfl
    obtain ⟨cs, hc, _⟩ := h1.ex
    have : w.heap[g]? = some (.cells (ic ls).toArray TIN (0, 0)) := hL
    rw [hc] at this
    injection this with this
    injection this with _ e _
    cases e
  exact ⟨g, o, n, cap, d, hv, h1.block (Below.heap_setCell w _ u g hg), h2.far hn h3, h3⟩
theorem PrW.under {w : World} : ∀ {d : List (Int × Value)} {bs : List Tt}, PrW w d bs → (∀ b ∈ bs, b.2 ≠ []) → ∀ p ∈ d, p.2.ownBlock ≠ some w.heap.size
  | [], [], _, _, _, hp => by cases hp
  | x :: d, b :: bs, h, hn, p, hp => by
    rcases List.mem_cons.1 hp with rfl | hp
    · obtain ⟨A, n, c, hv, hsl⟩ := h.1.2
      have hne := hn b (List.mem_cons_self ..)
      have h0 : 0 < n := by
        rw [← hsl.len]
        rcases Nat.eq_zero_or_pos (ic b.2).length with h0 | h0
        · exact absurd (List.eq_nil_of_length_eq_zero (by simpa [ic] using h0)) hne
        · exact h0
      obtain ⟨q, o, rfl, ⟨cs, fr, hT⟩, _⟩ := hsl.at_ h0
      rw [hv]
      intro e
      have hlt := block_lt hT
      simp [Value.ownBlock] at e
      omega
    · exact PrW.under h.2 (fun b hb => hn b (List.mem_cons_of_mem _ hb)) p hp
set_option maxHeartbeats 6400000 in
set_option maxRecDepth 100000 in
theorem rcodes_any (A : Option Addr) (n c : Nat) (ws : List Int) (w : World) (h : Il w A n c ws) (hw : Wok ws) :
    Calls Tryd.prog 56 #[.slice A n c] w (Ret (fun v w' => ∃ A' c' b ls S, v = .tuple #[.slice A' n c', .int .i64 S] ∧ Il w' A' n c' ls ∧ HRk ws (n - 1) [b] ls S) w) := by
  have hn := h.le
  have hc := h.cap
  have hl : ws.length = n := h.len
  have hn64 : n ≤ 64 := by rw [← hl]; exact hw.1.2
  have hn1 : 1 ≤ n := by rw [← hl]; exact hw.1.1
  have HL := Lib.hid hl
  have H := Lib.hid h
  have HW := Lib.hid hw
  clear h hw hl
  go_enter Tryd.func56, Tryd.ntmps56
  go_wp2_with fail
  go_loopw [4, 14] (fun v i wr => ∃ k : Nat, k ≤ n ∧ i = .int .i64 (k : Int) ∧ OwP TND w.heap.size wr v (leavesK ws k) ∧ Below w.heap.size w wr) (fun _ i _ => n - (intOf i).toNat)
  case atStart => exact ⟨0, by omega, rfl, OwP.nil _ _ _, Below.refl _ _⟩
  case round =>
    obtain ⟨k, hk, rfl, hown, hbw⟩ := hrel
    have HBW := Lib.hid hbw
    by_cases hkn : k < n
    · have pk : (k : Int) < (n : Int) := by omega
      obtain ⟨b, o, rfl, hcell⟩ := (H.out.below hbw).at_ (by omega)
      have ck := hcell k hkn
      obtain ⟨x, hx⟩ : ∃ x, ws.getD k 0 = x := ⟨_, rfl⟩
      rw [hx] at ck
      have HX := Lib.hid hx
      obtain ⟨d, hr, hp⟩ := hown
      have hdl := hp.len
      rw [leavesK_len] at hdl
      have hal1 : Ext wr (wr.alloc (.cells #[.int .i64 (k : Int)] TIN)) := Ext.allocR _ _
      have hsl : SL TIN (wr.alloc (.cells #[.int .i64 (k : Int)] TIN)) (.slice (some ⟨wr.heap.size, 0, none⟩) 1 1) (ic [(k : Int)]) := SL.lit1 (Blk.new_ _ _ rfl)
      have hal2 : Ext (wr.alloc (.cells #[.int .i64 (k : Int)] TIN)) ((wr.alloc (.cells #[.int .i64 (k : Int)] TIN)).alloc (.cells #[.int .i64 x, .slice (some ⟨wr.heap.size, 0, none⟩) 1 1] TND)) := Ext.allocR _ _
      have hz : w.heap.size ≤ ((wr.alloc (.cells #[.int .i64 (k : Int)] TIN)).alloc (.cells #[.int .i64 x, .slice (some ⟨wr.heap.size, 0, none⟩) 1 1] TND)).heap.size := (bt hbw (bt hal1 hal2)).size
      have HR := Lib.hid (And.intro (own_below hr (bt hal1 hal2)) (And.intro (hp.below (bt hal1 hal2)) (hsl.below hal2)))
      have HAL := Lib.hid (bt hal1 hal2)
      have HBX := Lib.hid (show Below w.heap.size w ((wr.alloc (.cells #[.int .i64 (k : Int)] TIN)).alloc (.cells #[.int .i64 x, .slice (some ⟨wr.heap.size, 0, none⟩) 1 1] TND)) from bt hbw (bt hal1 hal2))
      have HBN := Lib.hid (show Blk ((wr.alloc (.cells #[.int .i64 (k : Int)] TIN)).alloc (.cells #[.int .i64 x, .slice (some ⟨wr.heap.size, 0, none⟩) 1 1] TND)) (wr.heap.size + 1) TND #[.int .i64 x, .slice (some ⟨wr.heap.size, 0, none⟩) 1 1] from Blk.new_ _ _ (by simp))
      clear hcell hx hr hp hal1 hal2 hsl hbw HBW
      go_wp2_with (at_builtin; go_loud (refine wp_appE TNS TND _ 2 32 nd_info Tryd.underlying119 rfl (by omega) (by omega) rfl _ _ rfl w.heap.size _ d.length (cel prE d) rfl HR.out.1 ⟨wr.heap.size + 1, 0, none⟩ 1 1 [.int .i64 x, .slice (some ⟨wr.heap.size, 0, none⟩) 1 1] rfl rfl (blk_cells HBN.out) pr_one (by omega) (by omega) hz ?_); intro v3 w3 hown3 hb3 hg3; have HN := Lib.hid (show OwP TND w.heap.size w3 v3 (leavesK ws (k + 1)) from by rw [leavesK_succ, HX.out]; exact OwP.snoc (by decide) HR.out.1 HR.out.2.1 HR.out.2.2 hown3 hg3); have HN2 := Lib.hid (HBX.out.trans hb3); clear hown3 hb3 hg3 HR HBN)
      go_roundw
      case rel => exact ⟨k + 1, by omega, by go_num, HN.out, HN2.out⟩
      case measure => simp [intOf]; omega
    · have hkn2 : k = n := by omega
      subst hkn2
      have hmk := fun W => make_I k (by omega) W
      have hne : ∀ b ∈ leavesL ws, b.2 ≠ [] := (Hok.leaves HW.out).ne
      have hlk : leavesK ws k = leavesL ws := by unfold leavesL leavesK; rw [HL.out]
      rw [hlk] at hown
      obtain ⟨d, hr, hp⟩ := hown
      have hdl : d.length = k := by rw [hp.len, ← hlk, leavesK_len]
      rw [hdl] at hr
      have hnb0 : NB w.heap.size wr.heap.size wr u4 (leavesL ws) := by
        rcases hr.2 with ⟨_, h0⟩ | ⟨g, cap, cur, rfl, _⟩
        · omega
        · exact ⟨g, 0, k, cap, d, rfl, RoO.of_own hr hdl, hp, hp.under hne⟩
      obtain ⟨L, hLe⟩ : ∃ L, wr.heap.size = L := ⟨_, rfl⟩
      have hx1 : Ext wr (wr.alloc (.cells (ic (List.replicate k 0)).toArray TIN)) := Ext.allocR _ _
      have hlb : LB (wr.alloc (.cells (ic (List.replicate k 0)).toArray TIN)) L (List.replicate k 0) := Blk.new_ _ _ hLe
      have hnb1 := hnb0.below hx1
      rw [hLe] at hnb1
      have H0 := Lib.hid (And.intro hnb1 (And.intro hlb (bt hbw hx1)))
      have HRZ : Hid (HRk ws 0 (leavesL ws) (List.replicate k 0) 0) := show _ ∧ _ from ⟨rfl, by rw [HL.out], rfl⟩
      have hLw : w.heap.size ≤ L := by rw [← hLe]; exact hbw.size
      clear hnb0 hnb1 hlb hx1 hbw HBW hr hp hdl hlk hne
      go_wp2_with fail
      clear hmk hLe
      go_loopw [4, 8] (fun v s W => ∃ (j : Nat) (bs : List Tt) (ls : List Int) (S : Int), s = .int .i64 S ∧ HRk ws j bs ls S ∧ NB w.heap.size L W v bs ∧ LB W L ls ∧ Below w.heap.size w W) (fun v _ _ => slN v)
      case atStart => exact ⟨0, _, _, 0, rfl, HRZ.out, H0.out.1, H0.out.2.1, H0.out.2.2⟩
      case round =>
        clear H0 HRZ
        obtain ⟨j, bs, ls, S, rfl, hr, ⟨g, o, n', cap, d, rfl, ro, pr, hno⟩, lb, hbw⟩ := hrel
        have hok := hr.ok HW.out
        have hn' : bs.length = n' := by rw [← pr.len]; exact ro.len
        have hlen := hok.len
        rw [HL.out] at hlen
        have hcl := ro.le
        have hcm : cap ≤ 9223372036854775807 := by simpa [maxLen] using ro.capM
        have HR := Lib.hid hr
        have HOK := Lib.hid hok
        have HRO := Lib.hid (And.intro ro (And.intro pr hno))
        have HLB := Lib.hid lb
        have HBW := Lib.hid hbw
        clear hr hok ro pr hno lb hbw
        by_cases h1 : 1 < n'
        · have d1 : decide ((1 : Int) < (n' : Int)) = true := by simp; omega
          go_wp2_with fail
          refine (rsortN_any w.heap.size _ g o n' cap d bs HRO.out.1 HRO.out.2.1 (fun b hb => HOK.out.ok.nok (by rw [HL.out]; omega) hb) (by omega) (by omega)).mono ?_
          rintro e w2 ⟨rfl, ⟨d2, bs2, ro2, pr2, pd, pb, psrt⟩, hb2, hk2⟩
          have hgL := ro_ne HRO.out.1 HLB.out
          have hlb2 : LB w2 L ls := (hk2 L (Blk.lt HLB.out) (fun e => hgL e.symm)).trans HLB.out
          have hno2 : ∀ p ∈ d2, p.2.ownBlock ≠ some L := fun p hp => HRO.out.2.2 p (pd.subset hp)
          obtain ⟨a, b, r, A1, n1, c1, A2, n2, c2, hbs2, sl1, sl2, cc0, cc1, cc2, cc3, prr, hnor⟩ := two_nodes ro2 pr2 h1 hno2
          subst hbs2
          have hok2 := HOK.out.ok.perm pb
          have lena := hok2.len (List.mem_cons_self ..)
          have lenb := hok2.len (List.mem_cons_of_mem _ (List.mem_cons_self ..))
          have nea := hok2.ne a (List.mem_cons_self ..)
          have neb := hok2.ne b (List.mem_cons_of_mem _ (List.mem_cons_self ..))
          have wa := hok2.wle (List.mem_cons_self ..)
          have wb := hok2.wle (List.mem_cons_of_mem _ (List.mem_cons_self ..))
          rw [HL.out] at lena lenb
          obtain ⟨A1', c1', e1, il1⟩ := sl1.il
          obtain ⟨A2', c2', e2, il2⟩ := sl2.il
          injection e1 with e1a e1b e1c
          subst e1a e1c
          injection e2 with e2a e2b e2c
          subst e2a e2c
          rw [← e1b] at il1 lena
          rw [← e2b] at il2 lenb
          have p1 : 0 < n1 := by
            rw [e1b]; exact List.length_pos_iff.2 nea
          have p2 : 0 < n2 := by
            rw [e2b]; exact List.length_pos_iff.2 neb
          have HN12 := Lib.hid (And.intro e1b e2b)
          have HNE : Hid (∀ b ∈ r, b.2 ≠ []) := show ∀ _, _ from fun x hx => hok2.ne x (List.mem_cons_of_mem _ (List.mem_cons_of_mem _ hx))
          clear e1b e2b
          have HST : Hid (HRk ws (j + 1) (r ++ [(a.1 + b.1, srtI (a.2 ++ b.2))]) (incL ls (srtI (a.2 ++ b.2))) (S + (a.1 + b.1))) := show _ from ⟨bs, ls, S, a, b, r, HR.out, pb, psrt, rfl, rfl, rfl⟩
          have hbl : bs.length = r.length + 2 := by rw [← pb.length_eq]; rfl
          have hab : (a.2 ++ b.2).length ≤ 64 ∧ ∀ x ∈ a.2 ++ b.2, 0 ≤ x ∧ x < (k : Int) := by
            refine ⟨?_, fun x hx => ?_⟩
            · have h1 := hok2.all.length_eq
              rw [upL_len, HL.out] at h1
              have e : allN (a :: b :: r) = (a.2 ++ b.2) ++ allN r := by unfold allN; rw [List.flatMap_cons, List.flatMap_cons, List.append_assoc]
              rw [e, List.length_append] at h1
              omega
            · rw [← HL.out]
              rcases List.mem_append.1 hx with hx | hx
              · exact hok2.rng (List.mem_cons_self ..) hx
              · exact hok2.rng (List.mem_cons_of_mem _ (List.mem_cons_self ..)) hx
          have hsw : a.1 + b.1 ≤ 64000000 := by
            have h1 := hok2.sum
            have h2 : sumW (a :: b :: r) = a.1 + (b.1 + sumW r) := rfl
            have h3 := sumW_nn (bs := r) fun x hx => hok2.pos x (List.mem_cons_of_mem _ (List.mem_cons_of_mem _ hx))
            omega
          have HAB := Lib.hid hab
          have hS := HOK.out.sb
          have HRO2 := Lib.hid (And.intro ro2 (And.intro prr hnor))
          have HLB2 := Lib.hid hlb2
          have HB2 := Lib.hid (HBW.out.trans hb2)
          have HIL1 := Lib.hid (And.intro il1 sl1)
          have HIL2 := Lib.hid (And.intro il2 sl2)
          have HGL := Lib.hid hgL
          obtain ⟨x1, hx1⟩ : ∃ x, a.1 = x := ⟨_, rfl⟩
          obtain ⟨x2, hx2⟩ : ∃ x, b.1 = x := ⟨_, rfl⟩
          rw [hx1] at wa cc0 hsw HST
          rw [hx2] at wb cc2 hsw HST
          have kc := fun w' (hh : Ext w2 w') => (show (w'.cell? ⟨g, o, none⟩ = some (.int .i64 x1) ∧ w'.cell? ⟨g, o + 1, none⟩ = some (.slice A1 n1 c1)) ∧ w'.cell? ⟨g, o + 2, none⟩ = some (.int .i64 x2) ∧ w'.cell? ⟨g, o + 3, none⟩ = some (.slice A2 n2 c2) from ⟨⟨Ext.cell hh cc0, Ext.cell hh cc1⟩, Ext.cell hh cc2, Ext.cell hh cc3⟩)
          have wq : IntKind.i64.wrap (x1 + x2) = x1 + x2 := IntWalk.i64_in _ (by omega)
          have q1 : 0 < n' := by omega
          have pq1 : (1 : Int) < (n' : Int) := by omega
          have hst : Ext w2 w2.drew := Ext.drew _
          have l1 := il1.le
          have l1' := il1.cap
          have l2 := il2.le
          have l2' := il2.cap
          clear ro2 pr2 pd pb psrt hb2 hk2 hgL hlb2 hno2 sl1 sl2 cc0 cc1 cc2 cc3 prr hnor hok2 nea neb il1 il2 hab HRO HLB HBW hx1 hx2
          go_upto_region 10 with fail
          refine wp_region_adv 23 [⟨22, 9, TND, #[.int .i64 0, .slice none 0 0]⟩] [(0, true, some 35, none), (1, true, some 36, none), (2, true, some 37, none), (3, true, some 38, none), (4, true, some 39, none), (5, true, some 40, none), (6, true, some 41, none), (7, true, some 42, none), (8, true, some 43, none), (9, true, some 44, none), (10, true, some 45, none), (11, true, some 46, none), (12, true, some 47, none), (13, true, some 48, none), (14, true, some 49, none), (15, true, some 50, none), (16, true, some 51, none), (17, false, some 52, none), (18, false, some 53, none), (19, false, some 54, none), (20, false, some 55, none), (21, true, some 56, none)] (by kernel_rfl) (by kernel_rfl) (by kernel_rfl) (by intro it hit; (repeat (rcases List.mem_cons.1 hit with rfl | hit; (focus (intro o ho ev w; injection ho with ho; subst ho; kernel_rfl)))); cases hit) (fun _ _ _ _ _ => ⟨fun h => h, fun h => h⟩) hst ?_
          repeat (first | (refine wpSeq_pure (v := ?_) rfl ?_ ?_; rotate_left 1; (focus (intro wq_ hSq_; (try dsimp only at hSq_); go_simp; (try with_reducible rfl); done)); (try simp only [Act.put, List.setIfInBounds_toArray, List.set_cons_zero, List.set_cons_succ])) | (refine wpSeq_pureG (v := ?_) rfl rfl ?_ ?_; rotate_left 1; (focus (intro wq_ hSq_; (try dsimp only at hSq_); go_simp; (try with_reducible rfl); done)); (try simp only [Act.put, List.setIfInBounds_toArray, List.set_cons_zero, List.set_cons_succ])) | (refine wpSeq_off rfl rfl ?_; (try simp only [Act.put, List.setIfInBounds_toArray, List.set_cons_zero, List.set_cons_succ])))
          first | refine wpSeq_call rfl (fun u1 g1 s1 K hK => ?_) | refine wpSeq_callG rfl rfl (fun u1 g1 s1 K hK => ?_)
          go_simp
          (try go_wp2_with fail)
          refine hK.out _ _ (Ext.allocR _ _) ?_
          clear hK K
          (try simp only [Act.put, List.setIfInBounds_toArray, List.set_cons_zero, List.set_cons_succ])
          repeat (first | (refine wpSeq_pure (v := ?_) rfl ?_ ?_; rotate_left 1; (focus (intro wq_ hSq_; (try dsimp only at hSq_); go_simp; (try with_reducible rfl); done)); (try simp only [Act.put, List.setIfInBounds_toArray, List.set_cons_zero, List.set_cons_succ])) | (refine wpSeq_pureG (v := ?_) rfl rfl ?_ ?_; rotate_left 1; (focus (intro wq_ hSq_; (try dsimp only at hSq_); go_simp; (try with_reducible rfl); done)); (try simp only [Act.put, List.setIfInBounds_toArray, List.set_cons_zero, List.set_cons_succ])) | (refine wpSeq_off rfl rfl ?_; (try simp only [Act.put, List.setIfInBounds_toArray, List.set_cons_zero, List.set_cons_succ])))
          first | refine wpSeq_call rfl (fun u2 g2 s2 K hK => ?_) | refine wpSeq_callG rfl rfl (fun u2 g2 s2 K hK => ?_)
          go_simp
          refine (lconcat_any u1.heap.size n1 c1 n2 c2 A1 A2 a.2 b.2 u2 ((Blk.new_ TIS #[.slice A1 n1 c1, .slice A2 n2 c2] rfl).below g2) (HIL1.out.1.below s2) (HIL2.out.1.below s2) p1 p2 (by omega) (by omega)).mono ?_
          rintro e y2 ⟨v2, rfl, ho2, b2⟩
          obtain ⟨A3, n3, c3, hv2, il3⟩ := ho2.il3
          subst hv2
          have hn3 : n3 ≤ 64 ∧ 0 < n3 := by
            have h := il3.len
            have h2 := HAB.out.1
            have h3 := HN12.out
            rw [List.length_append] at h h2
            omega
          have l3 := il3.le
          have l3' := il3.cap
          (try go_wp2_with fail)
          refine hK.out _ _ b2 ?_
          clear hK K
          (try simp only [Act.put, List.setIfInBounds_toArray, List.set_cons_zero, List.set_cons_succ])
          repeat (first | (refine wpSeq_pure (v := ?_) rfl ?_ ?_; rotate_left 1; (focus (intro wq_ hSq_; (try dsimp only at hSq_); go_simp; (try with_reducible rfl); done)); (try simp only [Act.put, List.setIfInBounds_toArray, List.set_cons_zero, List.set_cons_succ])) | (refine wpSeq_pureG (v := ?_) rfl rfl ?_ ?_; rotate_left 1; (focus (intro wq_ hSq_; (try dsimp only at hSq_); go_simp; (try with_reducible rfl); done)); (try simp only [Act.put, List.setIfInBounds_toArray, List.set_cons_zero, List.set_cons_succ])) | (refine wpSeq_off rfl rfl ?_; (try simp only [Act.put, List.setIfInBounds_toArray, List.set_cons_zero, List.set_cons_succ])))
          first | refine wpSeq_call rfl (fun u3 g3 s3 K hK => ?_) | refine wpSeq_callG rfl rfl (fun u3 g3 s3 K hK => ?_)
          go_simp
          refine (lvalues_any A3 n3 c3 u3).mono ?_
          rintro e y3 ⟨rfl, rfl⟩
          (try go_wp2_with fail)
          refine hK.out _ _ (Ext.allocR _ _) ?_
          clear hK K
          (try simp only [Act.put, List.setIfInBounds_toArray, List.set_cons_zero, List.set_cons_succ])
          repeat (first | (refine wpSeq_pure (v := ?_) rfl ?_ ?_; rotate_left 1; (focus (intro wq_ hSq_; (try dsimp only at hSq_); go_simp; (try with_reducible rfl); done)); (try simp only [Act.put, List.setIfInBounds_toArray, List.set_cons_zero, List.set_cons_succ])) | (refine wpSeq_pureG (v := ?_) rfl rfl ?_ ?_; rotate_left 1; (focus (intro wq_ hSq_; (try dsimp only at hSq_); go_simp; (try with_reducible rfl); done)); (try simp only [Act.put, List.setIfInBounds_toArray, List.set_cons_zero, List.set_cons_succ])) | (refine wpSeq_off rfl rfl ?_; (try simp only [Act.put, List.setIfInBounds_toArray, List.set_cons_zero, List.set_cons_succ])))
          first | refine wpSeq_call rfl (fun u4' g4 s4 K hK => ?_) | refine wpSeq_callG rfl rfl (fun u4' g4 s4 K hK => ?_)
          go_simp
          have hs4 := s4
          refine (lsorted_any u3.heap.size n3 c3 A3 (a.2 ++ b.2) u4' ((Blk.new_ TIS #[.slice A3 n3 c3] rfl).below g4) ((il3.below g3).below (bt (Ext.allocR _ _) g4)) (by omega) (by omega)).mono ?_
          rintro e y4 ⟨v4, rfl, ho4, b4⟩
          have sl4 := ho4.sl
          have hge4 := own_geE ho4
          obtain ⟨A5, n5, c5, hv4, il5⟩ := ho4.il3
          subst hv4
          have l5 := il5.le
          have l5' := il5.cap
          (try go_wp2_with fail)
          refine hK.out _ _ b4 ?_
          clear hK K
          (try simp only [Act.put, List.setIfInBounds_toArray, List.set_cons_zero, List.set_cons_succ])
          repeat (first | (refine wpSeq_pure (v := ?_) rfl ?_ ?_; rotate_left 1; (focus (intro wq_ hSq_; (try dsimp only at hSq_); go_simp; (try with_reducible rfl); done)); (try simp only [Act.put, List.setIfInBounds_toArray, List.set_cons_zero, List.set_cons_succ])) | (refine wpSeq_pureG (v := ?_) rfl rfl ?_ ?_; rotate_left 1; (focus (intro wq_ hSq_; (try dsimp only at hSq_); go_simp; (try with_reducible rfl); done)); (try simp only [Act.put, List.setIfInBounds_toArray, List.set_cons_zero, List.set_cons_succ])) | (refine wpSeq_off rfl rfl ?_; (try simp only [Act.put, List.setIfInBounds_toArray, List.set_cons_zero, List.set_cons_succ])))
          intro wz gz sz_
          (try simp only [endJ, List.drop_succ_cons, List.drop_zero])
          intro R1 hr1 hu_ hB1
          (try simp only [endJ, Act.put, ptr, List.setIfInBounds_toArray, List.set_cons_zero, List.set_cons_succ])
          clear hu_
          have hx5 : Ext w2 wz := sz_
          have hz5 := sl4.below gz
          have hi5 := il5.below gz
          have kR := hB1.cells
          have f0 := Blk.free hB1 0
          have f1 := Blk.free hB1 1
          simp only [cellsAre, Nat.zero_add, Nat.reduceAdd, and_true] at kR
          clear hst kc g1 s1 g2 s2 ho2 b2 il3 g3 s3 g4 s4 ho4 b4 sl4 il5 gz sz_
          have hnL : (Value.slice A5 n5 c5).ownBlock ≠ some L := fun e => by
            have h1 := hge4 L e
            have h2 := Blk.lt HLB2.out
            have h3 := Ext.size hs4
            omega
          go_upto_region 11 with fail
          have hb6 : Blk ((wz.setCell ⟨R1, 0, none⟩ (.int .i64 (x1 + x2))).setCell ⟨R1, 1, none⟩ (.slice A5 n5 c5)) R1 TND #[.int .i64 (x1 + x2), .slice A5 n5 c5] := (hB1.set_ 0 _).set_ 1 _
          have hh6 : Held R1 2 TND wz ((wz.setCell ⟨R1, 0, none⟩ (.int .i64 (x1 + x2))).setCell ⟨R1, 1, none⟩ (.slice A5 n5 c5)) := (hB1.heldS.set_ 0 _).set_ 1 _
          have hx6 : Ext w2 ((wz.setCell ⟨R1, 0, none⟩ (.int .i64 (x1 + x2))).setCell ⟨R1, 1, none⟩ (.slice A5 n5 c5)) := (Below.setCell hx5 hr1 _).setCell hr1 _
          have hz6 := hz5.held hh6 (by decide)
          refine wp_world (fun W6 => Blk W6 R1 TND #[.int .i64 (x1 + x2), .slice A5 n5 c5] ∧ Ext w2 W6 ∧ SL TIN W6 (.slice A5 n5 c5) (ic (srtI (a.2 ++ b.2)))) ⟨hb6, hx6, hz6⟩ ?_
          clear hb6 hh6 hx6 hz6 hx5 hz5 hi5 kR f0 f1 hB1 hge4 hs4
          rintro W6 ⟨hb6, hx6, hz6⟩
          obtain ⟨A5', c5', e5, hi6⟩ := hz6.il
          injection e5 with e5a e5b e5c
          subst e5a e5c
          rw [← e5b] at hi6
          have hn5 : n5 ≤ 64 := by rw [e5b, srtI_len]; exact HAB.out.1
          have HN5 := Lib.hid e5b
          have hlb6 : LB W6 L (incL ls ((srtI (a.2 ++ b.2)).take 0)) := Blk.below HLB2.out hx6
          have hh0 : Held L ls.length TIN W6 W6 := by
            have h := Blk.heldS hlb6
            simpa [ic, incL] using h
          have k6 := hb6.cells
          simp only [cellsAre, Nat.zero_add, Nat.reduceAdd, and_true] at k6
          have HB6 := Lib.hid (And.intro hb6 (And.intro hx6 (And.intro hz6 hi6)))
          have H0 := Lib.hid (And.intro hlb6 hh0)
          clear hb6 hx6 hz6 hi6 hlb6 hh0 e5b
          go_wp2_with fail
          go_loopw [60] (fun i W => ∃ q : Nat, q ≤ n5 ∧ i = .int .i64 (q : Int) ∧ LB W L (incL ls ((srtI (a.2 ++ b.2)).take q)) ∧ Held L ls.length TIN W6 W) (fun i _ => n5 - (intOf i).toNat)
          case atStart => exact ⟨0, Nat.zero_le _, rfl, H0.out.1, H0.out.2⟩
          case round =>
            clear H0
            obtain ⟨q, hq, rfl, hlb, hh⟩ := hrel
            have hsl6 := HB6.out.2.2.1.kept (by
              intro e
              have := congrArg List.length e
              rw [srtI_len, List.length_append, List.length_nil] at this
              have := HN12.out
              omega) hnL (fun b hb hne => hh.g.block b hb (fun e => hne (by injection e)))
            obtain ⟨A5'', c5'', e5, hi6⟩ := hsl6.il
            injection e5 with e5a e5b e5c
            subst e5a e5c
            rw [← HN5.out] at hi6
            clear e5b
            have HLQ := Lib.hid hlb
            have HH := Lib.hid hh
            by_cases hqn : q < n5
            · have pq : (q : Int) < (n5 : Int) := by omega
              obtain ⟨b5, o5, rfl, hc5⟩ := hi6.at_ (by omega)
              have ck := hc5 q hqn
              have hql : q < (srtI (a.2 ++ b.2)).length := by rw [← HN5.out]; exact hqn
              obtain ⟨X, hX⟩ : ∃ X : Nat, (srtI (a.2 ++ b.2)).getD q 0 = (X : Int) ∧ X < k := by
                have e : (srtI (a.2 ++ b.2)).getD q 0 = (srtI (a.2 ++ b.2))[q] := by simp [List.getD, hql]
                have h := HAB.out.2 _ ((srtI_perm _).subset (List.getElem_mem hql))
                exact ⟨((srtI (a.2 ++ b.2)).getD q 0).toNat, by omega, by omega⟩
              rw [hX.1] at ck
              have hXk := hX.2
              have pX : (X : Int) < (k : Int) := by omega
              have hlen0 : ls.length = k := by rw [HOK.out.ll]; exact HL.out
              have hll : (incL ls ((srtI (a.2 ++ b.2)).take q)).length = k := by rw [incL_len, hlen0]
              have cl := hlb.cell (j := X) (by omega)
              have fl := Blk.free hlb X
              have hbd := incL_bd ((srtI (a.2 ++ b.2)).take q) ls (64 * j) HOK.out.lb X
              have htl : ((srtI (a.2 ++ b.2)).take q).length ≤ 64 := by rw [List.length_take]; omega
              obtain ⟨z, hz⟩ : ∃ z, (incL ls ((srtI (a.2 ++ b.2)).take q)).getD X 0 = z := ⟨_, rfl⟩
              have hsn : incL ls ((srtI (a.2 ++ b.2)).take (q + 1)) = (incL ls ((srtI (a.2 ++ b.2)).take q)).set X (z + 1) := by
                have e : (srtI (a.2 ++ b.2)).getD q 0 = (srtI (a.2 ++ b.2))[q] := by simp [List.getD, hql]
                rw [List.take_succ_eq_append_getElem hql, incL_snoc, ← e, hX.1, Int.toNat_natCast, hz]
              rw [hz] at cl hbd
              have wz1 : IntKind.i64.wrap (z + 1) = z + 1 := IntWalk.i64_in _ (by omega)
              have HSN := Lib.hid hsn
              clear hlb hh hsl6 hi6 hc5 hX hz hsn hll hql hbd htl
              go_wp2
              go_roundw
              case rel => exact ⟨q + 1, by omega, by go_num, by rw [HSN.out]; exact HLQ.out.set_ X (z + 1), HH.out.set_ X _⟩
              case measure => simp [intOf]; omega
            · have hqn2 : q = n5 := by omega
              subst hqn2
              rw [List.take_of_length_le (by rw [← HN5.out]; exact Nat.le_refl _)] at hlb
              have hkL : ∀ b, b < W6.heap.size → b ≠ L → wr.heap[b]? = W6.heap[b]? := fun b hb hne => hh.g.block b hb (fun e => hne (by injection e))
              have hLlt : L < w2.heap.size := Blk.lt HLB2.out
              have hrL : R1 ≠ L := by omega
              have hro : RoO TND w.heap.size wr g o n' cap d2 := (HRO2.out.1.below HB6.out.2.1).block (hkL g (HRO2.out.1.below HB6.out.2.1).lt HGL.out)
              have hpr : PrW wr (d2.drop 2) r := (HRO2.out.2.1.below HB6.out.2.1).kept hkL (fun b hb => HNE.out b hb) HRO2.out.2.2
              have hbR : Blk wr R1 TND #[.int .i64 (x1 + x2), .slice A5 q c5] := (hkL R1 HB6.out.1.lt hrL).trans HB6.out.1
              have hbw : Below w.heap.size w wr := (HB2.out.trans (HB6.out.2.1.mono HB2.out.size)).grown hh.g (Nat.le_trans HB2.out.size HB6.out.2.1.size) (fun k e => by injection e with e; subst e; exact hLw)
              have k17 := fun w' (hx : Ext wr w') => (hbR.below hx).cells
              simp only [cellsAre, Nat.zero_add, Nat.reduceAdd, and_true] at k17
              have HRO3 := Lib.hid (And.intro (hro.drop2 (by omega)) hpr)
              have HSL3 := Lib.hid hsl6
              have HLB3 := Lib.hid (show LB wr L (incL ls (srtI (a.2 ++ b.2))) from hlb)
              have HB3 := Lib.hid hbw
              have kR := hbR.cells
              simp only [cellsAre, Nat.zero_add, Nat.reduceAdd, and_true] at kR
              have wS : IntKind.i64.wrap (S + (x1 + x2)) = S + (x1 + x2) := IntWalk.i64_in _ (by omega)
              have p2n : (2 : Int) ≤ (n' : Int) := by omega
              have p2m : 2 ≤ n' := by omega
              have hst : Ext wr wr.drew := Ext.drew _
              clear hh hlb hsl6 hi6 hkL hro hpr hbR hbw HLQ HH
              go_upto_region 17 with fail
              clear kR
              by_cases hcap : cap = 2
              · have hn2 : n' = 2 := by omega
                have hro0 : RoO TND w.heap.size wr g o (n' - 2) (cap - 2) (d2.drop 2) := HRO3.out.1.back (by omega)
                have HRO4 := Lib.hid (And.intro hro0 HRO3.out.2)
                clear HRO3 hro0
                subst hcap
                subst hn2
                refine wp_region_adv 4 [] [(0, true, some 75, none), (1, true, some 76, none), (2, true, some 77, none), (3, false, some 78, none)] (by kernel_rfl) (by kernel_rfl) (by kernel_rfl) (by intro it hit; (repeat (rcases List.mem_cons.1 hit with rfl | hit; (focus (intro o ho ev w; injection ho with ho; subst ho; kernel_rfl)))); cases hit) (fun _ _ _ _ _ => ⟨fun h => h, fun h => h⟩) hst ?_
                repeat (first | (refine wpSeq_pure (v := ?_) rfl ?_ ?_; rotate_left 1; (focus (intro wq_ hSq_; (try dsimp only at hSq_); go_simp; (try with_reducible rfl); done)); (try simp only [Act.put, List.setIfInBounds_toArray, List.set_cons_zero, List.set_cons_succ])) | (refine wpSeq_pureG (v := ?_) rfl rfl ?_ ?_; rotate_left 1; (focus (intro wq_ hSq_; (try dsimp only at hSq_); go_simp; (try with_reducible rfl); done)); (try simp only [Act.put, List.setIfInBounds_toArray, List.set_cons_zero, List.set_cons_succ])) | (refine wpSeq_off rfl rfl ?_; (try simp only [Act.put, List.setIfInBounds_toArray, List.set_cons_zero, List.set_cons_succ])))
                first | refine wpSeq_call rfl (fun v1 g1 s1 K hK => ?_) | refine wpSeq_callG rfl rfl (fun v1 g1 s1 K hK => ?_)
                go_simp
                (try go_wp2_with fail)
                refine hK.out _ _ (Ext.allocR _ _) ?_
                clear hK K
                (try simp only [Act.put, List.setIfInBounds_toArray, List.set_cons_zero, List.set_cons_succ])
                repeat (first | (refine wpSeq_pure (v := ?_) rfl ?_ ?_; rotate_left 1; (focus (intro wq_ hSq_; (try dsimp only at hSq_); go_simp; (try with_reducible rfl); done)); (try simp only [Act.put, List.setIfInBounds_toArray, List.set_cons_zero, List.set_cons_succ])) | (refine wpSeq_pureG (v := ?_) rfl rfl ?_ ?_; rotate_left 1; (focus (intro wq_ hSq_; (try dsimp only at hSq_); go_simp; (try with_reducible rfl); done)); (try simp only [Act.put, List.setIfInBounds_toArray, List.set_cons_zero, List.set_cons_succ])) | (refine wpSeq_off rfl rfl ?_; (try simp only [Act.put, List.setIfInBounds_toArray, List.set_cons_zero, List.set_cons_succ])))
                intro wz gz sz_
                (try simp only [endJ, List.drop_succ_cons, List.drop_zero])
                have hbq : Blk wz v1.heap.size TND #[.int .i64 (x1 + x2), .slice A5 q c5] := (Blk.new_ TND #[.int .i64 (x1 + x2), .slice A5 q c5] rfl).below gz
                have hszw : w.heap.size ≤ wz.heap.size := Nat.le_trans HB3.out.size (Ext.size sz_)
                obtain ⟨v', w', g', o', cap', hrun, hv', hro', hbw', hkw'⟩ := run_appO (P := Tryd.prog) TNS _ 32 TNS nd_info Tryd.underlying119 rfl (by omega) (HRO4.out.1.below sz_) hszw (by omega) (x1 + x2) (.slice A5 q c5) v1.heap.size 1 hbq rfl
                have hgq := (HRO4.out.1.below sz_).ex
                have hpr' : PrW w' (d2.drop 2 ++ [(x1 + x2, .slice A5 q c5)]) (r ++ [(x1 + x2, srtI (a.2 ++ b.2))]) := (PrW.app (PrW.one (HSL3.out.below sz_)) (HRO4.out.2.below sz_)).keepT hgq hkw'
                have hlb' : LB w' L (incL ls (srtI (a.2 ++ b.2))) := (hkw' L (Blk.lt (HLB3.out.below sz_)) (fun e => HGL.out e.symm)).trans (HLB3.out.below sz_)
                subst hv'
                have HNB : Hid (NB w.heap.size L w' (.slice (some ⟨g', o', none⟩) (2 - 2 + 1) cap') (r ++ [(x1 + x2, srtI (a.2 ++ b.2))])) := show _ from ⟨g', o', _, cap', _, rfl, hro', hpr', fun p hp => by
                  rcases List.mem_append.1 hp with hp | hp
                  · exact HRO2.out.2.2 p hp
                  · rw [List.mem_singleton] at hp; subst hp; exact hnL⟩
                have HE := Lib.hid (And.intro hlb' ((HB3.out.trans (Below.mono sz_ HB3.out.size)).trans hbw'))
                clear hst k17 g1 s1 gz sz_ hbq hro' hbw' hkw' hgq hpr' hlb'
                go_wp2_with (at_builtin; (refine Go.Lib.wpList_append_run _ rfl _ _ _ _ rfl (.slice (some ⟨g, o, none⟩) (2 - 2) (2 - 2)) (.slice (some ⟨v1.heap.size, 0, none⟩) 1 1) rfl rfl _ _ hrun ?_))
                go_roundw
                case rel => exact ⟨j + 1, _, _, _, rfl, HST.out, HNB.out, HE.out.1, HE.out.2⟩
                case measure => (simp [slN] <;> omega)
              · have hcap2 : ¬ (cap - 2 = 0) := by omega
                have HRO4 := Lib.hid HRO3.out
                clear HRO3
                refine wp_region_adv 4 [] [(0, true, some 75, none), (1, true, some 76, none), (2, true, some 77, none), (3, false, some 78, none)] (by kernel_rfl) (by kernel_rfl) (by kernel_rfl) (by intro it hit; (repeat (rcases List.mem_cons.1 hit with rfl | hit; (focus (intro o ho ev w; injection ho with ho; subst ho; kernel_rfl)))); cases hit) (fun _ _ _ _ _ => ⟨fun h => h, fun h => h⟩) hst ?_
                repeat (first | (refine wpSeq_pure (v := ?_) rfl ?_ ?_; rotate_left 1; (focus (intro wq_ hSq_; (try dsimp only at hSq_); go_simp; (try with_reducible rfl); done)); (try simp only [Act.put, List.setIfInBounds_toArray, List.set_cons_zero, List.set_cons_succ])) | (refine wpSeq_pureG (v := ?_) rfl rfl ?_ ?_; rotate_left 1; (focus (intro wq_ hSq_; (try dsimp only at hSq_); go_simp; (try with_reducible rfl); done)); (try simp only [Act.put, List.setIfInBounds_toArray, List.set_cons_zero, List.set_cons_succ])) | (refine wpSeq_off rfl rfl ?_; (try simp only [Act.put, List.setIfInBounds_toArray, List.set_cons_zero, List.set_cons_succ])))
                first | refine wpSeq_call rfl (fun v1 g1 s1 K hK => ?_) | refine wpSeq_callG rfl rfl (fun v1 g1 s1 K hK => ?_)
                go_simp
                (try go_wp2_with fail)
                refine hK.out _ _ (Ext.allocR _ _) ?_
                clear hK K
                (try simp only [Act.put, List.setIfInBounds_toArray, List.set_cons_zero, List.set_cons_succ])
                repeat (first | (refine wpSeq_pure (v := ?_) rfl ?_ ?_; rotate_left 1; (focus (intro wq_ hSq_; (try dsimp only at hSq_); go_simp; (try with_reducible rfl); done)); (try simp only [Act.put, List.setIfInBounds_toArray, List.set_cons_zero, List.set_cons_succ])) | (refine wpSeq_pureG (v := ?_) rfl rfl ?_ ?_; rotate_left 1; (focus (intro wq_ hSq_; (try dsimp only at hSq_); go_simp; (try with_reducible rfl); done)); (try simp only [Act.put, List.setIfInBounds_toArray, List.set_cons_zero, List.set_cons_succ])) | (refine wpSeq_off rfl rfl ?_; (try simp only [Act.put, List.setIfInBounds_toArray, List.set_cons_zero, List.set_cons_succ])))
                intro wz gz sz_
                (try simp only [endJ, List.drop_succ_cons, List.drop_zero])
                have hbq : Blk wz v1.heap.size TND #[.int .i64 (x1 + x2), .slice A5 q c5] := (Blk.new_ TND #[.int .i64 (x1 + x2), .slice A5 q c5] rfl).below gz
                have hszw : w.heap.size ≤ wz.heap.size := Nat.le_trans HB3.out.size (Ext.size sz_)
                obtain ⟨v', w', g', o', cap', hrun, hv', hro', hbw', hkw'⟩ := run_appO (P := Tryd.prog) TNS _ 32 TNS nd_info Tryd.underlying119 rfl (by omega) (HRO4.out.1.below sz_) hszw (by omega) (x1 + x2) (.slice A5 q c5) v1.heap.size 1 hbq rfl
                have hgq := (HRO4.out.1.below sz_).ex
                have hpr' : PrW w' (d2.drop 2 ++ [(x1 + x2, .slice A5 q c5)]) (r ++ [(x1 + x2, srtI (a.2 ++ b.2))]) := (PrW.app (PrW.one (HSL3.out.below sz_)) (HRO4.out.2.below sz_)).keepT hgq hkw'
                have hlb' : LB w' L (incL ls (srtI (a.2 ++ b.2))) := (hkw' L (Blk.lt (HLB3.out.below sz_)) (fun e => HGL.out e.symm)).trans (HLB3.out.below sz_)
                subst hv'
                have HNB : Hid (NB w.heap.size L w' (.slice (some ⟨g', o', none⟩) (n' - 2 + 1) cap') (r ++ [(x1 + x2, srtI (a.2 ++ b.2))])) := show _ from ⟨g', o', _, cap', _, rfl, hro', hpr', fun p hp => by
                  rcases List.mem_append.1 hp with hp | hp
                  · exact HRO2.out.2.2 p hp
                  · rw [List.mem_singleton] at hp; subst hp; exact hnL⟩
                have HE := Lib.hid (And.intro hlb' ((HB3.out.trans (Below.mono sz_ HB3.out.size)).trans hbw'))
                clear hst k17 g1 s1 gz sz_ hbq hro' hbw' hkw' hgq hpr' hlb'
                go_wp2_with (at_builtin; (refine Go.Lib.wpList_append_run _ rfl _ _ _ _ rfl (.slice (some ⟨g, o + 4, none⟩) (n' - 2) (cap - 2)) (.slice (some ⟨v1.heap.size, 0, none⟩) 1 1) rfl rfl _ _ hrun ?_))
                go_roundw
                case rel => exact ⟨j + 1, _, _, _, rfl, HST.out, HNB.out, HE.out.1, HE.out.2⟩
                case measure => (simp [slN] <;> omega)
        · have hn0 : n' = 1 := by
            rcases Nat.eq_zero_or_pos n' with h0 | h0
            · exfalso
              have e : bs = [] := List.eq_nil_of_length_eq_zero (by omega)
              have h1 := HOK.out.ok.all.length_eq
              rw [e, upL_len, HL.out] at h1
              simp [allN] at h1
              omega
            · omega
          subst hn0
          obtain ⟨b, hb⟩ : ∃ b, bs = [b] := by
            match bs, hn' with
            | [b], _ => exact ⟨b, rfl⟩
          subst hb
          have hj : j = k - 1 := by omega
          subst hj
          have hlk : ls.length = k := by rw [HOK.out.ll]; exact HL.out
          have HE := Lib.hid (HLB.out.il hlk (by omega))
          go_wp2
          go_returns
          exact ⟨_, rfl, ⟨_, _, _, _, _, rfl, HE.out, HR.out⟩, HBW.out⟩
end Go.Proofs.Tb
