/- Contract of probe.Cost. -/
import Derived.Test.YtcjddfhhofoidaaDoorOpa
import Derived.Test.YtcjddfhhofoidaaDoorRc
import Derived.Test.YtcjddfhhofoidaaDoorMob
import Derived.Lib.LazyBuf
import Derived.Test.YtcjddfhhofoidaaDoorCsw
import Derived.Test.YtcjddfhhofoidaaDoorApx
import Derived.Deep.CutBlock
import Derived.Test.YtcjddfhhofoidaaDoorEnc
set_option linter.unusedVariables false
set_option linter.unusedSimpArgs false
namespace Go.Proofs.Tb
open Go.RowKit
attribute [local go_sem] cell_set_same

theorem pT_none {ws : List Int} {ts : List Tt} (h : Cv ws ts) {s : Nat} (hs : s < 2 ^ ws.length) : pT ws ts s = -1 ↔ ¬ ts.any (fun t => spB t.2 (mems ws.length s)) = true := by
  rw [sp_any h hs]
  constructor
  · rintro e ⟨i, hi, hsp⟩
    rcases bst_inv (wsN ws) (tsN ts) s with hv | ⟨j, hj, e2, _⟩
    · have h1 := (tryL_min (c := bst (wsN ws) (tsN ts)) (W := wt (wsN ws) s) (k := (tsN ts).length) hi hsp).1
      rw [← bst_eq] at h1
      exact h1 (by rw [hv])
    · have : pT ws ts s = (j : Int) := e2
      omega
  · intro hn
    unfold pT
    rw [bst_none fun i hi hsp => hn ⟨i, hi, hsp⟩]
/-- What a walk visits: the set and the tests on the way. -/
abbrev Vt := Nat × List Int
def vEn (n : Nat) (v : Vt) : En := (mems n v.1, v.2)
set_option maxHeartbeats 6400000 in
set_option maxRecDepth 100000 in
theorem rclone_any (A : Option Addr) (n c : Nat) (xs : List Int) (w : World) (h : Il w A n c xs) (hn : n ≤ 1000000) :
    Calls Tryd.prog 68 #[.slice A n c] w (Ret (fun v w' => OwI w.heap.size w' v xs) w) := by
  have hle := h.le
  have hcp := h.cap
  have hq := fun wq => _root_.Go.run_eql_slice_nil (P := Tryd.prog) wq TIS TIN A n c Tryd.underlying37
  cases A with
  | none =>
    have e0 : n = 0 := by
      apply Classical.byContradiction
      intro h0
      obtain ⟨b, o, hA, _⟩ := h.at_ (by omega)
      cases hA
    subst e0
    have ex : xs = [] := List.eq_nil_of_length_eq_zero h.len
    subst ex
    have HO := Lib.hid (OwI.nil w.heap.size w)
    clear h
    go_enter Tryd.func68, Tryd.ntmps68
    go_wp2
    go_returns
    exact ⟨_, rfl, HO.out, Below.refl _ _⟩
  | some a =>
    have x1 : Ext w (w.alloc (.cells #[] TIN)) := Ext.allocR _ _
    have hil : Il (w.alloc (.cells #[] TIN)) (some a) n c xs := h.below x1
    obtain ⟨hn1, hn2, hn3⟩ := hil.news
    obtain ⟨v3, w3, hrun, hrow, hgr, hbel⟩ := run_appA (P := Tryd.prog) TIS TIN _ 1 8 TIS int_info Tryd.underlying37 rfl (by omega) (by omega) w.heap.size (.slice (some ⟨w.heap.size, 0, none⟩) 0 0) 0 [] (OwI.empty w) (some a) n c (ic xs) hn1 hn2 hn3 (ic_one _) (by omega) (by omega) x1.size
    rw [Nat.zero_add, List.nil_append] at hrow
    have ho3 : OwI w.heap.size w3 v3 xs := OwT.mk hil.len hrow
    have x3 : Ext w w3 := (Below.mono (Ext.allocR w (.cells #[] TIN)) (Nat.le_refl _)).trans hbel
    have HO := Lib.hid (And.intro ho3 x3)
    clear hil hn1 hn2 hn3 hrow hgr hbel ho3 x1 x3 h
    go_enter Tryd.func68, Tryd.ntmps68
    go_wp2_with (at_builtin; refine Go.Lib.wpList_append_run _ rfl _ _ _ _ rfl (.slice (some ⟨w.heap.size, 0, none⟩) 0 0) (.slice (some a) n c) rfl rfl _ _ hrun ?_)
    go_returns
    exact ⟨_, rfl, HO.out.1, HO.out.2⟩
def eqK (xs ys : List Int) (k : Nat) : Prop := ∀ j, j < k → xs.getD j 0 = ys.getD j 0
set_option maxHeartbeats 6400000 in
set_option maxRecDepth 100000 in
theorem requal_any (A A' : Option Addr) (n c m d : Nat) (xs ys : List Int) (w : World) (h : Il w A n c xs) (h' : Il w A' m d ys) :
    Calls Tryd.prog 92 #[.slice A n c, .slice A' m d] w (Ret (fun v _ => v = .bool (sameB xs ys)) w) := by
  have hn := h.le
  have hc := h.cap
  have hm := h'.le
  have hd := h'.cap
  have HL := Lib.hid h.len
  have HL' := Lib.hid h'.len
  have H := Lib.hid h
  have H' := Lib.hid h'
  clear h h'
  by_cases hnm : n = m
  rotate_left
  · have pn : (n : Int) ≠ (m : Int) := by omega
    have HF := Lib.hid (sameB_f (show xs ≠ ys from fun e => hnm (by rw [← HL.out, ← HL'.out, e])))
    go_enter Tryd.func92, Tryd.ntmps92
    go_wp2
    go_returns
    exact ⟨_, rfl, by rw [HF.out]; rfl, Below.refl _ _⟩
  · subst hnm
    go_enter Tryd.func92, Tryd.ntmps92
    go_wp2
    go_loopw [13] (fun i wr => ∃ k : Nat, k ≤ n ∧ i = .int .i64 (k : Int) ∧ eqK xs ys k ∧ Ext w wr) (fun i _ => n - (intOf i).toNat)
    case atStart => exact ⟨0, by omega, rfl, fun j hj => absurd hj (by omega), Ext.refl _⟩
    case round =>
      obtain ⟨k, hk, rfl, hek, hx⟩ := hrel
      have HX := Lib.hid hx
      have HE := Lib.hid hek
      clear hek
      by_cases hkn : k < n
      · have pk : (k : Int) < (n : Int) := by omega
        obtain ⟨b, o, rfl, hcell⟩ := (H.out.below hx).at_ (by omega)
        obtain ⟨b', o', rfl, hcell'⟩ := (H'.out.below hx).at_ (by omega)
        have c1 := fun w' (hh : Ext wr w') => (show w'.cell? ⟨b, o + k, none⟩ = some (.int .i64 (xs.getD k 0)) from Ext.cell hh (hcell k hkn))
        have c2 := fun w' (hh : Ext wr w') => (show w'.cell? ⟨b', o' + k, none⟩ = some (.int .i64 (ys.getD k 0)) from Ext.cell hh (hcell' k hkn))
        obtain ⟨x, hxe⟩ : ∃ x, xs.getD k 0 = x := ⟨_, rfl⟩
        obtain ⟨y, hye⟩ : ∃ y, ys.getD k 0 = y := ⟨_, rfl⟩
        rw [hxe] at c1
        rw [hye] at c2
        have HXY := Lib.hid (And.intro hxe hye)
        have hst : Ext wr wr.drew := Ext.drew _
        clear hcell hcell' hx hxe hye
        by_cases hxy : x = y
        · subst hxy
          go_upto_region 6 with fail
          refine wp_region_adv 8 [] [(0, true, some 16, none), (1, true, some 17, none), (2, true, some 18, none), (3, true, some 19, none), (4, true, some 20, none), (5, true, some 21, none), (6, true, some 22, none), (7, true, some 23, none)] (by kernel_rfl) (by kernel_rfl) (by kernel_rfl) (by intro it hit; (repeat (rcases List.mem_cons.1 hit with rfl | hit; (focus (intro o ho ev w; injection ho with ho; subst ho; kernel_rfl)))); cases hit) (fun _ _ _ _ _ => ⟨fun h => h, fun h => h⟩) hst ?_
          repeat (first | (refine wpSeq_pure (v := ?_) rfl ?_ ?_; rotate_left 1; (focus (intro wq_ hSq_; (try dsimp only at hSq_); go_simp; (try with_reducible rfl); done)); (try simp only [Act.put, List.setIfInBounds_toArray, List.set_cons_zero, List.set_cons_succ])) | (refine wpSeq_pureG (v := ?_) rfl rfl ?_ ?_; rotate_left 1; (focus (intro wq_ hSq_; (try dsimp only at hSq_); go_simp; (try with_reducible rfl); done)); (try simp only [Act.put, List.setIfInBounds_toArray, List.set_cons_zero, List.set_cons_succ])) | (refine wpSeq_off rfl rfl ?_; (try simp only [Act.put, List.setIfInBounds_toArray, List.set_cons_zero, List.set_cons_succ])))
          intro wz gz sz_
          (try simp only [endJ, List.drop_succ_cons, List.drop_zero])
          have XZ := Lib.hid (bt HX.out sz_)
          clear hst c1 c2 gz sz_
          go_wp2
          go_roundw
          case rel => exact ⟨k + 1, by omega, by go_num, fun j hj => by
            rcases Nat.lt_or_eq_of_le (Nat.le_of_lt_succ hj) with h | rfl
            · exact HE.out j h
            · rw [HXY.out.1, HXY.out.2], XZ.out⟩
          case measure => simp [intOf]; omega
        · have HF := Lib.hid (sameB_f (show xs ≠ ys from fun e => hxy (by rw [← HXY.out.1, ← HXY.out.2, e])))
          go_upto_region 6 with fail
          refine wp_region_adv 8 [] [(0, true, some 16, none), (1, true, some 17, none), (2, true, some 18, none), (3, true, some 19, none), (4, true, some 20, none), (5, true, some 21, none), (6, true, some 22, none), (7, true, some 23, none)] (by kernel_rfl) (by kernel_rfl) (by kernel_rfl) (by intro it hit; (repeat (rcases List.mem_cons.1 hit with rfl | hit; (focus (intro o ho ev w; injection ho with ho; subst ho; kernel_rfl)))); cases hit) (fun _ _ _ _ _ => ⟨fun h => h, fun h => h⟩) hst ?_
          repeat (first | (refine wpSeq_pure (v := ?_) rfl ?_ ?_; rotate_left 1; (focus (intro wq_ hSq_; (try dsimp only at hSq_); go_simp; (try with_reducible rfl); done)); (try simp only [Act.put, List.setIfInBounds_toArray, List.set_cons_zero, List.set_cons_succ])) | (refine wpSeq_pureG (v := ?_) rfl rfl ?_ ?_; rotate_left 1; (focus (intro wq_ hSq_; (try dsimp only at hSq_); go_simp; (try with_reducible rfl); done)); (try simp only [Act.put, List.setIfInBounds_toArray, List.set_cons_zero, List.set_cons_succ])) | (refine wpSeq_off rfl rfl ?_; (try simp only [Act.put, List.setIfInBounds_toArray, List.set_cons_zero, List.set_cons_succ])))
          intro wz gz sz_
          (try simp only [endJ, List.drop_succ_cons, List.drop_zero])
          have XZ := Lib.hid (bt HX.out sz_)
          clear hst c1 c2 gz sz_
          go_wp2
          go_returns
          exact ⟨_, rfl, by rw [HF.out]; rfl, XZ.out⟩
      · obtain rfl : k = n := by omega
        have HT := Lib.hid (sameB_t (list_same (by rw [HL.out, HL'.out]) (fun j hj => HE.out j (by rw [HL.out] at hj; exact hj))))
        clear hx
        go_wp2
        go_returns
        exact ⟨_, rfl, by rw [HT.out]; rfl, HX.out⟩
/-- What a visit keeps of what is younger than b1. -/
def KG (b1 : Nat) (w w' : World) : Prop := w.heap.size ≤ w'.heap.size ∧ ∀ b, b1 ≤ b → b < w.heap.size → w'.heap[b]? = w.heap[b]?
theorem KG.refl (b1 : Nat) (w : World) : KG b1 w w := ⟨Nat.le_refl _, fun _ _ _ => rfl⟩
theorem KG.trans {b1 : Nat} {w w' w'' : World} (h : KG b1 w w') (h' : KG b1 w' w'') : KG b1 w w'' :=
  ⟨Nat.le_trans h.1 h'.1, fun b hb hl => (h'.2 b hb (Nat.lt_of_lt_of_le hl h.1)).trans (h.2 b hb hl)⟩
theorem KG.ext {b1 : Nat} {w w' : World} (h : Ext w w') : KG b1 w w' := ⟨Ext.size h, fun b _ hl => Below.block h b hl⟩
theorem KG.own {b1 : Nat} {w w' : World} {v : Value} {xs : List Int} (h : KG b1 w w') (ho : OwI b1 w v xs) : OwI b1 w' v xs :=
  ho.keepG fun g cs e hg => h.2 g (own_geE ho g e) (block_lt hg)
theorem KG.blk {b1 : Nat} {w w' : World} {g : Nat} {T : TypeId} {cs : Array Value} (h : KG b1 w w') (hb : Blk w g T cs) (hg : b1 ≤ g) : Blk w' g T cs := by
  have hl : g < w.heap.size := hb.lt
  unfold Blk at *
  rw [h.2 g hg hl]
  exact hb
/-- What a visitor promises. -/
structure VisP (ws : List Int) (ts : List Tt) (tv : Value) (g : Nat) (A3 : Option Addr) (c3 : Nat) (w0 : World) (b1 B1 B2 : Nat) (V : List Vt → World → Prop) : Prop where
  ext : ∀ pre w w', V pre w → Ext w w' → V pre w'
  low : ∀ pre w, V pre w → b1 ≤ w.heap.size
  pl : ∀ pre w, V pre w → PlF tv ws ts g A3 c3 w ∧ Ext w0 w
  call : ∀ (pre : List Vt) (s : Nat) (way : List Int) A n c w, s < 2 ^ ws.length → V pre w → OwI b1 w (.slice A n c) way → (∀ k ∈ way, 0 ≤ k ∧ k < (ts.length : Int)) → pre.length ≤ 60 → n ≤ 60 →
    Calls Tryd.prog 82 #[.int .i64 (s : Int), .slice A n c, .pointer (some ⟨B1, 0, none⟩), .pointer (some ⟨B2, 0, none⟩)] w fun e w' => ∃ v, e = .returned v ∧ V (pre ++ [((s, way) : Vt)]) w' ∧ KG b1 w w'
/-- What a walk returns. -/
def WkR (V : List Vt → World → Prop) (b1 : Nat) (w0 : World) (n : Nat) (pre : List Vt) (N : Nat) (o : Option (List En × List Tt)) (w : World) (e : Ending) (w' : World) : Prop :=
  ∃ vis, V vis w' ∧ KG b1 w w' ∧ ((o = none ∧ ∃ A c d, e = .returned (.tuple #[.slice A c d, .bool false])) ∨
    (∃ es r A c d, o = some (es, r) ∧ e = .returned (.tuple #[.slice A c d, .bool true]) ∧ Ts w0 A c d r ∧ c < N ∧ vis.map (vEn n) = pre.map (vEn n) ++ es ∧ vis.length + c ≤ pre.length + N))
theorem rdF_nil' (ts : List Tt) (f : Nat) (set way : List Int) : rdF ts f set way [] = none := by cases f <;> rfl
/-- The rows behind the first branch. -/
theorem Ts.tail {w : World} {bP oP n c : Nat} {b : Tt} {rest : List Tt} (h : Ts w (some ⟨bP, oP, none⟩) n c (b :: rest)) : Ts w (if c = 1 then some ⟨bP, oP, none⟩ else some ⟨bP, oP + 2, none⟩) (n - 1) (c - 1) rest := by
  have hl := h.len
  simp only [List.length_cons] at hl
  have h1 := h.le
  have h2 := h.cap
  refine ⟨by omega, by omega, by omega, fun h0 => ⟨bP, oP + 2, by rw [if_neg (by omega)], fun j hj => ?_⟩⟩
  obtain ⟨b', o', e, hc⟩ := h.at_ (by omega)
  injection e with e
  injection e with e1 e2 _
  subst e1 e2
  obtain ⟨k1, A1, n1, c1, k2, il⟩ := hc (j + 1) (by omega)
  refine ⟨?_, A1, n1, c1, ?_, il⟩
  · rw [show oP + 2 + j * 2 = oP + (j + 1) * 2 by omega]; exact k1
  · rw [show oP + 2 + j * 2 + 1 = oP + (j + 1) * 2 + 1 by omega]; exact k2
set_option maxHeartbeats 6400000 in
set_option maxRecDepth 100000 in
theorem rwalk_any (ws : List Int) (ts : List Tt) (hv : Cv ws ts) (A' : Option Addr) (m d g : Nat) (hm : ts.length = m) (hmd : m ≤ d) (hdd : d ≤ 9223372036854775807) (A3 : Option Addr) (c3 : Nat) (w0 : World) (b1 B1 B2 : Nat) (V : List Vt → World → Prop)
    (HV : Hid (VisP ws ts (.slice A' m d) g A3 c3 w0 b1 B1 B2 V)) : ∀ (f : Nat) (A A4 : Option Addr) (n c n4 c4 s : Nat) (way : List Int) (plan : List Tt) (pre : List Vt) (w : World), n ≤ f → s < 2 ^ ws.length → V pre w → Ts w0 A n c plan → OwI b1 w (.slice A4 n4 c4) way →
    (∀ k ∈ way, 0 ≤ k ∧ k < (ts.length : Int)) → way.length + n ≤ 60 → pre.length + n ≤ 60 →
    Calls Tryd.prog 81 #[.pointer (some ⟨g, 0, none⟩), .slice A n c, .int .i64 (s : Int), .slice A4 n4 c4, .func (.func 82) #[] #[.pointer (some ⟨B1, 0, none⟩), .pointer (some ⟨B2, 0, none⟩)]] w
      (WkR V b1 w0 ws.length pre n (rdF ts f (mems ws.length s) way plan) w) := by
  intro f
  induction f with
  | zero =>
    intro A A4 n c n4 c4 s way plan pre w hnf hs hV hT how hwr hwl hpl
    have e0 : n = 0 := by omega
    subst e0
    have ep : plan = [] := List.eq_nil_of_length_eq_zero hT.len
    subst ep
    have HH := Lib.hid hV
    clear hV hT how hwr HV
    go_enter Tryd.func81, Tryd.ntmps81
    go_wp2
    go_returns
    exact ⟨pre, HH.out, KG.refl _ _, Or.inl ⟨rdF_nil' _ _ _ _, _, _, _, rfl⟩⟩
  | succ f ih =>
    intro A A4 n c n4 c4 s way plan pre w hnf hs hV hT how hwr hwl hpl
    by_cases h40 : n = 0
    · subst h40
      have ep : plan = [] := List.eq_nil_of_length_eq_zero hT.len
      subst ep
      have HH := Lib.hid hV
      clear hV hT how hwr HV ih
      go_enter Tryd.func81, Tryd.ntmps81
      go_wp2
      go_returns
      exact ⟨pre, HH.out, KG.refl _ _, Or.inl ⟨rdF_nil' _ _ _ _, _, _, _, rfl⟩⟩
    · have l4 := hT.le
      have l4' := hT.cap
      have hn0 : (n : Int) ≠ 0 := by omega
      have hn1 : (0 : Int) < (n : Int) := by omega
      have hn2 : 0 < n := by omega
      have hn3 : 1 ≤ n := by omega
      have hn4 : (1 : Int) ≤ (n : Int) := by omega
      have hn5 : (n : Int) ≤ (c : Int) := by omega
      have hs1 : s < 1024 := Nat.lt_of_lt_of_le hs (pow_le_1024 hv.len10)
      have ps1 : (s : Int) < 1024 := by omega
      obtain ⟨bP, oP, rfl, hcP⟩ := hT.at_ (by omega)
      obtain ⟨ck1, Ab, nb, cb, ck2, ilb⟩ := hcP 0 (by omega)
      rw [Nat.zero_mul, Nat.add_zero] at ck1 ck2
      obtain ⟨bt0, hbt⟩ : ∃ x, tC plan 0 = x := ⟨_, rfl⟩
      obtain ⟨bs0, hbs⟩ : ∃ x, tS plan 0 = x := ⟨_, rfl⟩
      rw [hbt] at ck1
      rw [hbs] at ilb
      obtain ⟨rest, hpe⟩ : ∃ rest, plan = (bt0, bs0) :: rest := by
        cases plan with
        | nil => exact absurd hT.len.symm h40
        | cons b rest => exact ⟨rest, by rw [← hbt, ← hbs]; rfl⟩
      subst hpe
      have hx0 := (HV.out.pl _ _ hV).2
      have hnb := ilb.le
      have hcb := ilb.cap
      have HRT := Lib.hid hT.tail
      have IB := Lib.hid ilb
      have HS := Lib.hid hs
      have HWY := Lib.hid (And.intro how hwr)
      have HPV := Lib.hid hV
      have IH := Lib.hid ih
      have cp1 := (show w.cell? ⟨bP, oP, none⟩ = some (.int .i64 bt0) from Ext.cell hx0 ck1)
      have cp2 := (show w.cell? ⟨bP, oP + 1, none⟩ = some (.slice Ab nb cb) from Ext.cell hx0 ck2)
      clear hcP ck1 ck2 ilb hbt hbs hx0 hs hV hT how hwr ih
      go_enter Tryd.func81, Tryd.ntmps81
      go_upto_region 4 with fail
      have b3 : Blk (w.alloc (.cells #[.int .i64 bt0, .slice Ab nb cb] TBR)) w.heap.size TBR #[.int .i64 bt0, .slice Ab nb cb] := Blk.new_ _ _ rfl
      have x3 : Ext w (w.alloc (.cells #[.int .i64 bt0, .slice Ab nb cb] TBR)) := Ext.allocR _ _
      refine wp_world (fun W3 => Blk W3 w.heap.size TBR #[.int .i64 bt0, .slice Ab nb cb] ∧ Ext w W3) ⟨b3, x3⟩ ?_
      clear b3 x3 cp1 cp2
      rintro W3 ⟨b3, x3⟩
      obtain ⟨q, hq⟩ : ∃ q, w.heap.size = q := ⟨_, rfl⟩
      have hq1 : b1 ≤ q := by rw [← hq]; exact HV.out.low _ _ HPV.out
      rw [hq] at b3 ⊢
      have B3 := Lib.hid b3
      have X3 := Lib.hid x3
      have HQ := Lib.hid hq1
      have c3' := b3.cells
      simp only [cellsAre, Nat.zero_add, Nat.reduceAdd, and_true] at c3'
      clear b3 x3 hq hq1
      go_upto_region 5 with fail
      generalize hA5 : (if c = 1 then some (⟨bP, oP, none⟩ : Addr) else some ⟨bP, oP + 2, none⟩) = A5 at HRT ⊢
      obtain ⟨n5, hn5e⟩ : ∃ n5, n - 1 = n5 := ⟨_, rfl⟩
      obtain ⟨c5, hc5e⟩ : ∃ c5, c - 1 = c5 := ⟨_, rfl⟩
      rw [hn5e, hc5e] at HRT ⊢
      have hn5n : n5 + 1 = n := by omega
      clear hA5 hc5e hn5e
      have h4l := HWY.out.1.ilv.len
      by_cases hend : bt0 = -1
      · subst hend
        go_wp2_with fail
        refine (HV.out.call pre s way A4 n4 c4 W3 HS.out (HV.out.ext _ _ _ HPV.out X3.out) (HWY.out.1.below X3.out) HWY.out.2 (by omega) (by omega)).mono ?_
        rintro e w4 ⟨v4, rfl, hV4, hk4⟩
        have hpl4 := (HV.out.pl _ _ hV4).1
        have B4 := Lib.hid (hk4.blk B3.out HQ.out)
        have XW4 := Lib.hid (HV.out.pl _ _ hV4).2
        have K4 := Lib.hid ((KG.ext X3.out).trans hk4)
        have V4 := Lib.hid hV4
        have TB4 := Lib.hid hpl4.2.2
        have c1 : w4.cell? ⟨g, 2050 + s, none⟩ = some (.int .i64 (pT ws ts s)) := by
          have h1 := hpl4.1.cell (j := 2050 + s) (by omega)
          rw [plG_t, if_pos HS.out] at h1
          exact h1
        have kb := fun w' (hh : Ext w4 w') => (B4.out.below hh).cells
        simp only [cellsAre, Nat.zero_add, Nat.reduceAdd, and_true] at kb
        have hst : Ext w4 w4.drew := Ext.drew _
        clear hV4 hk4 hpl4 c3'
        by_cases hT : pT ws ts s = -1
        · have HNO := Lib.hid ((pT_none hv HS.out).1 hT)
          rw [hT] at c1
          have kt := fun w' (hh : Ext w4 w') => (show w'.cell? ⟨g, 2050 + s, none⟩ = some (.int .i64 (-1)) from Ext.cell hh c1)
          clear hT c1
          go_upto_region 7 with fail
          refine wp_region_adv 16 [] [(0, true, some 31, none), (1, true, some 32, none), (2, true, some 33, none), (3, true, some 34, none), (4, true, some 35, none), (5, true, some 36, none), (6, true, some 37, none), (7, true, some 38, none), (8, true, some 39, none), (9, true, some 40, some (39, true)), (10, true, some 41, some (39, true)), (11, true, some 42, some (39, true)), (12, false, some 43, some (39, true)), (13, false, some 44, some (39, true)), (14, true, some 45, none), (15, false, some 10, none)] (by kernel_rfl) (by kernel_rfl) (by kernel_rfl) (by intro it hit; (repeat (rcases List.mem_cons.1 hit with rfl | hit; (focus (intro o ho ev w; injection ho with ho; subst ho; kernel_rfl)))); cases hit) (fun _ _ _ _ _ => ⟨fun h => h, fun h => h⟩) hst ?_
          repeat (first | (refine wpSeq_pure (v := ?_) rfl ?_ ?_; rotate_left 1; (focus (intro wq_ hSq_; (try dsimp only at hSq_); go_simp; (try with_reducible rfl); done)); (try simp only [Act.put, List.setIfInBounds_toArray, List.set_cons_zero, List.set_cons_succ])) | (refine wpSeq_pureG (v := ?_) rfl rfl ?_ ?_; rotate_left 1; (focus (intro wq_ hSq_; (try dsimp only at hSq_); go_simp; (try with_reducible rfl); done)); (try simp only [Act.put, List.setIfInBounds_toArray, List.set_cons_zero, List.set_cons_succ])) | (refine wpSeq_off rfl rfl ?_; (try simp only [Act.put, List.setIfInBounds_toArray, List.set_cons_zero, List.set_cons_succ])))
          first | refine wpSeq_call rfl (fun u1 g1 s1 K hK => ?_) | refine wpSeq_callG rfl rfl (fun u1 g1 s1 K hK => ?_)
          go_simp
          refine (rlist_any ws.length s (by have := hv.len10; omega) HS.out u1 (TB4.out.below s1)).mono ?_
          rintro e y1 ⟨z1, rfl, x1, bb1⟩
          obtain ⟨A6, n6, c6, hz1, il6⟩ := x1.il3
          subst hz1
          have hl6 := il6.le
          have hl6' := il6.cap
          (try go_wp2_with fail)
          refine hK.out _ _ bb1 ?_
          clear hK K
          (try simp only [Act.put, List.setIfInBounds_toArray, List.set_cons_zero, List.set_cons_succ])
          repeat (first | (refine wpSeq_pure (v := ?_) rfl ?_ ?_; rotate_left 1; (focus (intro wq_ hSq_; (try dsimp only at hSq_); go_simp; (try with_reducible rfl); done)); (try simp only [Act.put, List.setIfInBounds_toArray, List.set_cons_zero, List.set_cons_succ])) | (refine wpSeq_pureG (v := ?_) rfl rfl ?_ ?_; rotate_left 1; (focus (intro wq_ hSq_; (try dsimp only at hSq_); go_simp; (try with_reducible rfl); done)); (try simp only [Act.put, List.setIfInBounds_toArray, List.set_cons_zero, List.set_cons_succ])) | (refine wpSeq_off rfl rfl ?_; (try simp only [Act.put, List.setIfInBounds_toArray, List.set_cons_zero, List.set_cons_succ])))
          first | refine wpSeq_call rfl (fun u2 g2 s2 K hK => ?_) | refine wpSeq_callG rfl rfl (fun u2 g2 s2 K hK => ?_)
          go_simp
          refine (requal_any Ab A6 nb cb n6 c6 bs0 (mems ws.length s) u2 (IB.out.below (bt XW4.out s2)) (il6.below g2)).mono ?_
          rintro e y2 ⟨z2, rfl, rfl, bb2⟩
          (try go_wp2_with fail)
          refine hK.out _ _ bb2 ?_
          clear hK K
          (try simp only [Act.put, List.setIfInBounds_toArray, List.set_cons_zero, List.set_cons_succ])
          repeat (first | (refine wpSeq_pure (v := ?_) rfl ?_ ?_; rotate_left 1; (focus (intro wq_ hSq_; (try dsimp only at hSq_); go_simp; (try with_reducible rfl); done)); (try simp only [Act.put, List.setIfInBounds_toArray, List.set_cons_zero, List.set_cons_succ])) | (refine wpSeq_pureG (v := ?_) rfl rfl ?_ ?_; rotate_left 1; (focus (intro wq_ hSq_; (try dsimp only at hSq_); go_simp; (try with_reducible rfl); done)); (try simp only [Act.put, List.setIfInBounds_toArray, List.set_cons_zero, List.set_cons_succ])) | (refine wpSeq_off rfl rfl ?_; (try simp only [Act.put, List.setIfInBounds_toArray, List.set_cons_zero, List.set_cons_succ])))
          first | refine wpSeq_call rfl (fun u3 g3 s3 K hK => ?_) | refine wpSeq_callG rfl rfl (fun u3 g3 s3 K hK => ?_)
          go_simp
          (try go_wp2_with fail)
          refine hK.out _ _ (Ext.refl _) ?_
          clear hK K
          (try simp only [Act.put, List.setIfInBounds_toArray, List.set_cons_zero, List.set_cons_succ])
          repeat (first | (refine wpSeq_pure (v := ?_) rfl ?_ ?_; rotate_left 1; (focus (intro wq_ hSq_; (try dsimp only at hSq_); go_simp; (try with_reducible rfl); done)); (try simp only [Act.put, List.setIfInBounds_toArray, List.set_cons_zero, List.set_cons_succ])) | (refine wpSeq_pureG (v := ?_) rfl rfl ?_ ?_; rotate_left 1; (focus (intro wq_ hSq_; (try dsimp only at hSq_); go_simp; (try with_reducible rfl); done)); (try simp only [Act.put, List.setIfInBounds_toArray, List.set_cons_zero, List.set_cons_succ])) | (refine wpSeq_off rfl rfl ?_; (try simp only [Act.put, List.setIfInBounds_toArray, List.set_cons_zero, List.set_cons_succ])))
          intro wz gz sz_
          (try simp only [endJ, List.drop_succ_cons, List.drop_zero])
          have HZ := Lib.hid (show V (pre ++ [((s, way) : Vt)]) wz ∧ KG b1 w wz from ⟨HV.out.ext _ _ _ V4.out sz_, K4.out.trans (KG.ext sz_)⟩)
          by_cases he : bs0 = mems ws.length s
          · rw [sameB_t he]
            have HD := Lib.hid (show rdF ts (f + 1) (mems ws.length s) way ((-1, bs0) :: rest) = some ([(mems ws.length s, way)], rest) by
              unfold rdF; rw [if_pos rfl, if_neg HNO.out, if_pos he])
            go_wp2
            go_returns
            refine ⟨_, HZ.out.1, HZ.out.2, Or.inr ⟨_, _, _, _, _, HD.out, rfl, HRT.out, by omega, ?_, ?_⟩⟩
            · rw [List.map_append]; rfl
            · simp only [List.length_append, List.length_cons, List.length_nil]; omega
          · rw [sameB_f he]
            have HD := Lib.hid (show rdF ts (f + 1) (mems ws.length s) way ((-1, bs0) :: rest) = none by
              unfold rdF; rw [if_pos rfl, if_neg HNO.out, if_neg he])
            go_wp2
            go_returns
            exact ⟨_, HZ.out.1, HZ.out.2, Or.inl ⟨HD.out, _, _, _, rfl⟩⟩
        · have HD := Lib.hid (show rdF ts (f + 1) (mems ws.length s) way ((-1, bs0) :: rest) = none by
            have h1 : ts.any (fun t => spB t.2 (mems ws.length s)) = true := Classical.byContradiction fun h => hT ((pT_none hv HS.out).2 h)
            unfold rdF; rw [if_pos rfl, if_pos h1])
          obtain ⟨T, hTe⟩ : ∃ T, pT ws ts s = T := ⟨_, rfl⟩
          rw [hTe] at hT c1
          have kt := fun w' (hh : Ext w4 w') => (show w'.cell? ⟨g, 2050 + s, none⟩ = some (.int .i64 T) from Ext.cell hh c1)
          have hTb : (T == -1) = false := by simpa using hT
          clear hTe c1
          go_upto_region 7 with fail
          refine wp_region_adv 16 [] [(0, true, some 31, none), (1, true, some 32, none), (2, true, some 33, none), (3, true, some 34, none), (4, true, some 35, none), (5, true, some 36, none), (6, true, some 37, none), (7, true, some 38, none), (8, true, some 39, none), (9, true, some 40, some (39, true)), (10, true, some 41, some (39, true)), (11, true, some 42, some (39, true)), (12, false, some 43, some (39, true)), (13, false, some 44, some (39, true)), (14, true, some 45, none), (15, false, some 10, none)] (by kernel_rfl) (by kernel_rfl) (by kernel_rfl) (by intro it hit; (repeat (rcases List.mem_cons.1 hit with rfl | hit; (focus (intro o ho ev w; injection ho with ho; subst ho; kernel_rfl)))); cases hit) (fun _ _ _ _ _ => ⟨fun h => h, fun h => h⟩) hst ?_
          repeat (first | (refine wpSeq_pure (v := ?_) rfl ?_ ?_; rotate_left 1; (focus (intro wq_ hSq_; (try dsimp only at hSq_); go_simp; (try with_reducible rfl); done)); (try simp only [Act.put, List.setIfInBounds_toArray, List.set_cons_zero, List.set_cons_succ])) | (refine wpSeq_pureG (v := ?_) rfl rfl ?_ ?_; rotate_left 1; (focus (intro wq_ hSq_; (try dsimp only at hSq_); go_simp; (try with_reducible rfl); done)); (try simp only [Act.put, List.setIfInBounds_toArray, List.set_cons_zero, List.set_cons_succ])) | (refine wpSeq_off rfl rfl ?_; (try simp only [Act.put, List.setIfInBounds_toArray, List.set_cons_zero, List.set_cons_succ])))
          first | refine wpSeq_call rfl (fun u3 g3 s3 K hK => ?_) | refine wpSeq_callG rfl rfl (fun u3 g3 s3 K hK => ?_)
          go_simp
          (try go_wp2_with fail)
          refine hK.out _ _ (Ext.refl _) ?_
          clear hK K
          (try simp only [Act.put, List.setIfInBounds_toArray, List.set_cons_zero, List.set_cons_succ])
          repeat (first | (refine wpSeq_pure (v := ?_) rfl ?_ ?_; rotate_left 1; (focus (intro wq_ hSq_; (try dsimp only at hSq_); go_simp; (try with_reducible rfl); done)); (try simp only [Act.put, List.setIfInBounds_toArray, List.set_cons_zero, List.set_cons_succ])) | (refine wpSeq_pureG (v := ?_) rfl rfl ?_ ?_; rotate_left 1; (focus (intro wq_ hSq_; (try dsimp only at hSq_); go_simp; (try with_reducible rfl); done)); (try simp only [Act.put, List.setIfInBounds_toArray, List.set_cons_zero, List.set_cons_succ])) | (refine wpSeq_off rfl rfl ?_; (try simp only [Act.put, List.setIfInBounds_toArray, List.set_cons_zero, List.set_cons_succ])))
          intro wz gz sz_
          (try simp only [endJ, List.drop_succ_cons, List.drop_zero])
          have HZ := Lib.hid (show V (pre ++ [((s, way) : Vt)]) wz ∧ KG b1 w wz from ⟨HV.out.ext _ _ _ V4.out sz_, K4.out.trans (KG.ext sz_)⟩)
          go_wp2
          go_returns
          exact ⟨_, HZ.out.1, HZ.out.2, Or.inl ⟨HD.out, _, _, _, rfl⟩⟩
      · have hpl3 := (HV.out.pl _ _ (HV.out.ext _ _ _ HPV.out X3.out)).1
        have hst : Ext W3 W3.drew := Ext.drew _
        have kb := fun w' (hh : Ext W3 w') => (B3.out.below hh).cells
        simp only [cellsAre, Nat.zero_add, Nat.reduceAdd, and_true] at kb
        have kp0 := fun w' (hh : Ext W3 w') => (show w'.cell? ⟨g, 0, none⟩ = some (.slice A' m d) from Ext.cell hh (hpl3.1.cell (j := 0) (by omega)))
        have HPL3 := Lib.hid hpl3
        clear hpl3
        by_cases hneg : bt0 < 0
        · have HD := Lib.hid (show rdF ts (f + 1) (mems ws.length s) way ((bt0, bs0) :: rest) = none by
            unfold rdF; rw [if_neg hend, if_neg (fun h => by have := h.1.1; simp only at this; omega)])
          go_upto_region 8 with fail
          refine wp_region_adv 11 [] [(0, true, some 46, none), (1, true, some 47, none), (2, true, some 48, none), (3, true, some 49, none), (4, true, some 50, some (49, false)), (5, true, some 51, some (49, false)), (6, true, some 52, some (49, false)), (7, true, some 53, some (49, false)), (8, true, some 54, some (49, false)), (9, true, some 55, some (49, false)), (10, true, some 56, some (49, false))] (by kernel_rfl) (by kernel_rfl) (by kernel_rfl) (by intro it hit; (repeat (rcases List.mem_cons.1 hit with rfl | hit; (focus (intro o ho ev w; injection ho with ho; subst ho; kernel_rfl)))); cases hit) (fun _ _ _ _ _ => ⟨fun h => h, fun h => h⟩) hst ?_
          repeat (first | (refine wpSeq_pure (v := ?_) rfl ?_ ?_; rotate_left 1; (focus (intro wq_ hSq_; (try dsimp only at hSq_); go_simp; (try with_reducible rfl); done)); (try simp only [Act.put, List.setIfInBounds_toArray, List.set_cons_zero, List.set_cons_succ])) | (refine wpSeq_pureG (v := ?_) rfl rfl ?_ ?_; rotate_left 1; (focus (intro wq_ hSq_; (try dsimp only at hSq_); go_simp; (try with_reducible rfl); done)); (try simp only [Act.put, List.setIfInBounds_toArray, List.set_cons_zero, List.set_cons_succ])) | (refine wpSeq_off rfl rfl ?_; (try simp only [Act.put, List.setIfInBounds_toArray, List.set_cons_zero, List.set_cons_succ])))
          intro wz gz sz_
          (try simp only [endJ, List.drop_succ_cons, List.drop_zero])
          have kbz := kb wz sz_
          have HZ := Lib.hid (show V pre wz ∧ KG b1 w wz from ⟨HV.out.ext _ _ _ HPV.out (bt X3.out sz_), (KG.ext X3.out).trans (KG.ext sz_)⟩)
          go_wp2
          go_returns
          exact ⟨_, HZ.out.1, HZ.out.2, Or.inl ⟨HD.out, _, _, _, rfl⟩⟩
        · have hneg' : ¬ (bt0 < 0) := hneg
          by_cases hge : (m : Int) ≤ bt0
          · have HD := Lib.hid (show rdF ts (f + 1) (mems ws.length s) way ((bt0, bs0) :: rest) = none by
              unfold rdF; rw [if_neg hend, if_neg (fun h => by have := h.1.2; simp only at this; rw [hm] at this; omega)])
            go_upto_region 8 with fail
            refine wp_region_adv 11 [] [(0, true, some 46, none), (1, true, some 47, none), (2, true, some 48, none), (3, true, some 49, none), (4, true, some 50, some (49, false)), (5, true, some 51, some (49, false)), (6, true, some 52, some (49, false)), (7, true, some 53, some (49, false)), (8, true, some 54, some (49, false)), (9, true, some 55, some (49, false)), (10, true, some 56, some (49, false))] (by kernel_rfl) (by kernel_rfl) (by kernel_rfl) (by intro it hit; (repeat (rcases List.mem_cons.1 hit with rfl | hit; (focus (intro o ho ev w; injection ho with ho; subst ho; kernel_rfl)))); cases hit) (fun _ _ _ _ _ => ⟨fun h => h, fun h => h⟩) hst ?_
            repeat (first | (refine wpSeq_pure (v := ?_) rfl ?_ ?_; rotate_left 1; (focus (intro wq_ hSq_; (try dsimp only at hSq_); go_simp; (try with_reducible rfl); done)); (try simp only [Act.put, List.setIfInBounds_toArray, List.set_cons_zero, List.set_cons_succ])) | (refine wpSeq_pureG (v := ?_) rfl rfl ?_ ?_; rotate_left 1; (focus (intro wq_ hSq_; (try dsimp only at hSq_); go_simp; (try with_reducible rfl); done)); (try simp only [Act.put, List.setIfInBounds_toArray, List.set_cons_zero, List.set_cons_succ])) | (refine wpSeq_off rfl rfl ?_; (try simp only [Act.put, List.setIfInBounds_toArray, List.set_cons_zero, List.set_cons_succ])))
            intro wz gz sz_
            (try simp only [endJ, List.drop_succ_cons, List.drop_zero])
            have kbz := kb wz sz_
            have HZ := Lib.hid (show V pre wz ∧ KG b1 w wz from ⟨HV.out.ext _ _ _ HPV.out (bt X3.out sz_), (KG.ext X3.out).trans (KG.ext sz_)⟩)
            go_wp2
            go_returns
            exact ⟨_, HZ.out.1, HZ.out.2, Or.inl ⟨HD.out, _, _, _, rfl⟩⟩
          · have hge' : ¬ ((m : Int) ≤ bt0) := hge
            by_cases hfb : 0 < nb
            · have hfb' : (0 : Int) < (nb : Int) := by omega
              have HD := Lib.hid (show rdF ts (f + 1) (mems ws.length s) way ((bt0, bs0) :: rest) = none by
                unfold rdF; rw [if_neg hend, if_neg (fun h => by have h1 := h.2.1; simp only at h1; have := IB.out.len; rw [h1] at this; simp at this; omega)])
              go_upto_region 8 with fail
              refine wp_region_adv 11 [] [(0, true, some 46, none), (1, true, some 47, none), (2, true, some 48, none), (3, true, some 49, none), (4, true, some 50, some (49, false)), (5, true, some 51, some (49, false)), (6, true, some 52, some (49, false)), (7, true, some 53, some (49, false)), (8, true, some 54, some (49, false)), (9, true, some 55, some (49, false)), (10, true, some 56, some (49, false))] (by kernel_rfl) (by kernel_rfl) (by kernel_rfl) (by intro it hit; (repeat (rcases List.mem_cons.1 hit with rfl | hit; (focus (intro o ho ev w; injection ho with ho; subst ho; kernel_rfl)))); cases hit) (fun _ _ _ _ _ => ⟨fun h => h, fun h => h⟩) hst ?_
              repeat (first | (refine wpSeq_pure (v := ?_) rfl ?_ ?_; rotate_left 1; (focus (intro wq_ hSq_; (try dsimp only at hSq_); go_simp; (try with_reducible rfl); done)); (try simp only [Act.put, List.setIfInBounds_toArray, List.set_cons_zero, List.set_cons_succ])) | (refine wpSeq_pureG (v := ?_) rfl rfl ?_ ?_; rotate_left 1; (focus (intro wq_ hSq_; (try dsimp only at hSq_); go_simp; (try with_reducible rfl); done)); (try simp only [Act.put, List.setIfInBounds_toArray, List.set_cons_zero, List.set_cons_succ])) | (refine wpSeq_off rfl rfl ?_; (try simp only [Act.put, List.setIfInBounds_toArray, List.set_cons_zero, List.set_cons_succ])))
              intro wz gz sz_
              (try simp only [endJ, List.drop_succ_cons, List.drop_zero])
              have kbz := kb wz sz_
              have HZ := Lib.hid (show V pre wz ∧ KG b1 w wz from ⟨HV.out.ext _ _ _ HPV.out (bt X3.out sz_), (KG.ext X3.out).trans (KG.ext sz_)⟩)
              go_wp2
              go_returns
              exact ⟨_, HZ.out.1, HZ.out.2, Or.inl ⟨HD.out, _, _, _, rfl⟩⟩
            · obtain rfl : nb = 0 := by omega
              have hbs0 : bs0 = [] := List.eq_nil_of_length_eq_zero IB.out.len
              obtain ⟨i, rfl⟩ : ∃ i : Nat, bt0 = (i : Int) := ⟨bt0.toNat, by omega⟩
              have him : i < m := by omega
              have him' : (i : Int) < (m : Int) := by omega
              have hit : i < ts.length := by omega
              go_upto_region 8 with fail
              refine wp_region_adv 11 [] [(0, true, some 46, none), (1, true, some 47, none), (2, true, some 48, none), (3, true, some 49, none), (4, true, some 50, some (49, false)), (5, true, some 51, some (49, false)), (6, true, some 52, some (49, false)), (7, true, some 53, some (49, false)), (8, true, some 54, some (49, false)), (9, true, some 55, some (49, false)), (10, true, some 56, some (49, false))] (by kernel_rfl) (by kernel_rfl) (by kernel_rfl) (by intro it hit; (repeat (rcases List.mem_cons.1 hit with rfl | hit; (focus (intro o ho ev w; injection ho with ho; subst ho; kernel_rfl)))); cases hit) (fun _ _ _ _ _ => ⟨fun h => h, fun h => h⟩) hst ?_
              repeat (first | (refine wpSeq_pure (v := ?_) rfl ?_ ?_; rotate_left 1; (focus (intro wq_ hSq_; (try dsimp only at hSq_); go_simp; (try with_reducible rfl); done)); (try simp only [Act.put, List.setIfInBounds_toArray, List.set_cons_zero, List.set_cons_succ])) | (refine wpSeq_pureG (v := ?_) rfl rfl ?_ ?_; rotate_left 1; (focus (intro wq_ hSq_; (try dsimp only at hSq_); go_simp; (try with_reducible rfl); done)); (try simp only [Act.put, List.setIfInBounds_toArray, List.set_cons_zero, List.set_cons_succ])) | (refine wpSeq_off rfl rfl ?_; (try simp only [Act.put, List.setIfInBounds_toArray, List.set_cons_zero, List.set_cons_succ])))
              intro w6 g6 s6
              (try simp only [endJ, List.drop_succ_cons, List.drop_zero])
              have kb6 := kb w6 s6
              have XW6 := Lib.hid (bt X3.out s6)
              have V6 := Lib.hid (HV.out.ext _ _ _ HPV.out XW6.out)
              have hpl6 := (HV.out.pl _ _ V6.out).1
              have B6 := Lib.hid (B3.out.below s6)
              obtain ⟨h61, h62, _⟩ := hpl6
              obtain ⟨b3, o3, rfl, hc3⟩ := h62.at_ (by omega)
              have hM := hv.shw_1024 hit
              have wand := i64_and s (shw ts i) (by omega) (by omega)
              have wnot := i64_andNot s (shw ts i) (by omega) (by omega)
              have cM : w6.cell? ⟨b3, o3 + i, none⟩ = some (.int .i64 (shw ts i : Int)) := by rw [hc3 i hit, shL_get ts hit]
              have hmc := h62.le
              have hcc := h62.cap
              obtain ⟨M, hMe⟩ : ∃ M, shw ts i = M := ⟨_, rfl⟩
              rw [hMe] at wand wnot hM cM
              have wand' : bits .and .i64 (s : Int) (M : Int) = ((inn s M : Nat) : Int) := wand
              have hIl := inn_le s M
              have hOl := outs_le s M
              obtain ⟨I, hI⟩ : ∃ I, inn s M = I := ⟨_, rfl⟩
              obtain ⟨O, hO⟩ : ∃ O, outs s M = O := ⟨_, rfl⟩
              rw [hI] at wand' hIl
              rw [hO] at wnot hOl
              have hsM : ((tsN ts).getD i (0, 0)).2 = M := by rw [tsN_get]; exact hMe
              have HYM := Lib.hid (show (mems ws.length s).filter (fun x => shB (tS ts i) x) = mems ws.length I by rw [yes_mems hv hit, hsM, hI])
              have HNM := Lib.hid (show (mems ws.length s).filter (fun x => !shB (tS ts i) x) = mems ws.length O by rw [no_mems hv hit, hsM, hO])
              have HSP := Lib.hid (show spB (tS ts i) (mems ws.length s) = true ↔ ¬ (I = 0 ∨ O = 0) by rw [spB_mems hv hit HS.out, hsM, hI, hO])
              have k61 := fun w' (hh : Ext w6 w') => (show w'.cell? ⟨g, 1, none⟩ = some (.slice (some ⟨b3, o3, none⟩) ts.length c3) from Ext.cell hh (h61.cell (j := 1) (by omega)))
              have k6M := fun w' (hh : Ext w6 w') => (show w'.cell? ⟨b3, o3 + i, none⟩ = some (.int .i64 (M : Int)) from Ext.cell hh cM)
              have k6b := fun w' (hh : Ext w6 w') => (B6.out.below hh).cells
              simp only [cellsAre, Nat.zero_add, Nat.reduceAdd, and_true] at k6b
              have hst6 : Ext w6 w6.drew := Ext.drew _
              rw [hm] at k61 hmc
              have HIS := Lib.hid (Nat.lt_of_le_of_lt hIl HS.out)
              have HOS := Lib.hid (Nat.lt_of_le_of_lt hOl HS.out)
              clear hst g6 s6 kb kp0 h61 h62 hc3 cM wand hMe hI hO hsM hneg hge hfb c3'
              go_upto_region 10 with fail
              refine wp_region_adv 21 [] [(0, true, some 65, none), (1, true, some 66, none), (2, true, some 67, none), (3, true, some 68, none), (4, true, some 69, none), (5, true, some 70, none), (6, true, some 71, none), (7, true, some 72, none), (8, true, some 73, none), (9, true, some 74, none), (10, true, some 75, none), (11, true, some 76, none), (12, true, some 77, none), (13, true, some 78, none), (14, true, some 79, none), (15, true, some 80, none), (16, true, some 81, none), (17, true, some 82, none), (18, true, some 83, none), (19, true, some 84, none), (20, false, some 13, none)] (by kernel_rfl) (by kernel_rfl) (by kernel_rfl) (by intro it hit; (repeat (rcases List.mem_cons.1 hit with rfl | hit; (focus (intro o ho ev w; injection ho with ho; subst ho; kernel_rfl)))); cases hit) (fun _ _ _ _ _ => ⟨fun h => h, fun h => h⟩) hst6 ?_
              repeat (first | (refine wpSeq_pure (v := ?_) rfl ?_ ?_; rotate_left 1; (focus (intro wq_ hSq_; (try dsimp only at hSq_); go_simp; (try with_reducible rfl); done)); (try simp only [Act.put, List.setIfInBounds_toArray, List.set_cons_zero, List.set_cons_succ])) | (refine wpSeq_pureG (v := ?_) rfl rfl ?_ ?_; rotate_left 1; (focus (intro wq_ hSq_; (try dsimp only at hSq_); go_simp; (try with_reducible rfl); done)); (try simp only [Act.put, List.setIfInBounds_toArray, List.set_cons_zero, List.set_cons_succ])) | (refine wpSeq_off rfl rfl ?_; (try simp only [Act.put, List.setIfInBounds_toArray, List.set_cons_zero, List.set_cons_succ])))
              first | refine wpSeq_call rfl (fun u3 g3 s3 K hK => ?_) | refine wpSeq_callG rfl rfl (fun u3 g3 s3 K hK => ?_)
              go_simp
              (try go_wp2_with fail)
              refine hK.out _ _ (Ext.refl _) ?_
              clear hK K
              (try simp only [Act.put, List.setIfInBounds_toArray, List.set_cons_zero, List.set_cons_succ])
              repeat (first | (refine wpSeq_pure (v := ?_) rfl ?_ ?_; rotate_left 1; (focus (intro wq_ hSq_; (try dsimp only at hSq_); go_simp; (try with_reducible rfl); done)); (try simp only [Act.put, List.setIfInBounds_toArray, List.set_cons_zero, List.set_cons_succ])) | (refine wpSeq_pureG (v := ?_) rfl rfl ?_ ?_; rotate_left 1; (focus (intro wq_ hSq_; (try dsimp only at hSq_); go_simp; (try with_reducible rfl); done)); (try simp only [Act.put, List.setIfInBounds_toArray, List.set_cons_zero, List.set_cons_succ])) | (refine wpSeq_off rfl rfl ?_; (try simp only [Act.put, List.setIfInBounds_toArray, List.set_cons_zero, List.set_cons_succ])))
              intro w7 g7 s7
              (try simp only [endJ, List.drop_succ_cons, List.drop_zero])
              have V7 := Lib.hid (HV.out.ext _ _ _ V6.out s7)
              have B7 := Lib.hid (B6.out.below s7)
              have XW7 := Lib.hid (bt XW6.out s7)
              clear hst6 k61 k6M k6b g7 s7 V6 B6 XW6 wand' wnot
              by_cases hIO : I = 0 ∨ O = 0
              · have HD := Lib.hid (show rdF ts (f + 1) (mems ws.length s) way (((i : Int), bs0) :: rest) = none by
                  unfold rdF; rw [if_neg hend, if_neg (fun h => HSP.out.1 (by have := h.2.2; simp only [Int.toNat_natCast] at this; exact this) hIO)])
                have HZ := Lib.hid (show V pre w7 ∧ KG b1 w w7 from ⟨V7.out, KG.ext XW7.out⟩)
                by_cases hI0 : I = 0
                · have pI : (I : Int) = 0 := by omega
                  go_wp2
                  go_returns
                  exact ⟨_, HZ.out.1, HZ.out.2, Or.inl ⟨HD.out, _, _, _, rfl⟩⟩
                · have pI : (I : Int) ≠ 0 := by omega
                  have pO : (O : Int) = 0 := by omega
                  go_wp2
                  go_returns
                  exact ⟨_, HZ.out.1, HZ.out.2, Or.inl ⟨HD.out, _, _, _, rfl⟩⟩
              · have pI : (I : Int) ≠ 0 := by omega
                have pO : (O : Int) ≠ 0 := by omega
                have pI0 : I ≠ 0 := by omega
                have pO0 : O ≠ 0 := by omega
                have bI : ((I : Int) == 0) = false := by simpa using pI0
                have bO : ((O : Int) == 0) = false := by simpa using pO0
                have HRF := Lib.hid (show rdF ts (f + 1) (mems ws.length s) way (((i : Int), bs0) :: rest) = (match rdF ts f (mems ws.length I) (way ++ [(i : Int)]) rest with
                    | none => none
                    | some (e1, r1) => match rdF ts f (mems ws.length O) (way ++ [(i : Int)]) r1 with
                      | none => none
                      | some (e2, r2) => some (e1 ++ e2, r2)) by
                  rw [← HYM.out, ← HNM.out]
                  rw [rdF]
                  rw [if_neg hend, if_pos ⟨⟨by simp only; omega, by simp only; omega⟩, hbs0, by simp only [Int.toNat_natCast]; exact HSP.out.2 hIO⟩]
                  simp only [Int.toNat_natCast]
                  rfl)
                clear HYM HNM HSP hIO
                have kq := fun w' (hh : Ext w7 w') => (B7.out.below hh).cells
                simp only [cellsAre, Nat.zero_add, Nat.reduceAdd, and_true] at kq
                have hst7 : Ext w7 w7.drew := Ext.drew _
                have IW7 := Lib.hid (HWY.out.1.below XW7.out).ilv
                have hn4 : n4 ≤ 60 := by omega
                go_upto_region 13 with fail
                go_cut [3] (fun s3 wx => ∃ (A7 : Option Addr) (n7 c7 : Nat), s3 = .slice A7 n7 c7 ∧ OwI w7.heap.size wx (.slice A7 n7 c7) (way ++ [(i : Int)]) ∧ Ext w7 wx)
                case first =>
                  refine wp_region_brn (S := Ext w7) (by kernel_rfl) (by kernel_rfl) (fun _ _ _ _ _ => ⟨fun h => h, fun h => h⟩) ?_
                  intro hsel_ hQ_
                  refine wpB_chunk (f := 4) (L' := #[true, false, true, true, false, false, false]) hsel_ hQ_ [(0, true, some 91, none), (2, true, some 93, none), (3, true, some 94, none)] _ _ _ (by kernel_rfl) hst7 ?_
                  repeat (first | (refine wpSeqB_pure (v := ?_) rfl ?_ ?_; rotate_left 1; (focus (intro wq_ hSq_; (try dsimp only at hSq_); go_simp; (try with_reducible rfl); done)); (try simp only [Act.put, List.setIfInBounds_toArray, List.set_cons_zero, List.set_cons_succ])) | (refine wpSeqB_pureG (v := ?_) rfl rfl ?_ ?_; rotate_left 1; (focus (intro wq_ hSq_; (try dsimp only at hSq_); go_simp; (try with_reducible rfl); done)); (try simp only [Act.put, List.setIfInBounds_toArray, List.set_cons_zero, List.set_cons_succ])) | (refine wpSeqB_off rfl rfl ?_; (try simp only [Act.put, List.setIfInBounds_toArray, List.set_cons_zero, List.set_cons_succ])) | (refine wpSeqB_offU rfl ?_; (try simp only [Act.put, List.setIfInBounds_toArray, List.set_cons_zero, List.set_cons_succ])))
                  intro s0
                  obtain ⟨wd, hwd⟩ : ∃ wd, w7.drew = wd := ⟨_, rfl⟩
                  rw [hwd] at s0 ⊢
                  have hBd : w7.heap.size ≤ wd.heap.size := Ext.size s0
                  clear hst7 hwd
                  refine wpB_two 1 4 (by kernel_rfl) rfl rfl rfl rfl ?_ ?_
                  · intro K hK
                    go_simp
                    refine (rclone_any A4 n4 c4 way wd (IW7.out.below s0) (by omega)).mono ?_
                    rintro e y1 ⟨z1, rfl, x1, bb1⟩
                    obtain ⟨A6, n6, c6, hz1, il6⟩ := x1.il3
                    subst hz1
                    have s1 : Ext w7 y1 := bt s0 bb1
                    have hO9' : OwI w7.heap.size y1 (.slice A6 n6 c6) way := x1.lower hBd
                    (try go_wp2_with fail)
                    refine hK.out _ _ s1 ?_
                    clear hK K x1 il6 bb1
                    (try simp only [List.getElem_toArray, List.getElem_cons_succ, List.getElem_cons_zero, Act.put, List.setIfInBounds_toArray, List.set_cons_zero, List.set_cons_succ])
                    refine wpB_chunk (f := 0) (L' := #[true, true, true, true, true, true, true]) hsel_ hQ_ [(4, false, some 95, none), (5, false, some 96, none), (6, false, some 3, none)] _ _ _ (by kernel_rfl) s1 ?_
                    repeat (first | (refine wpSeqB_pure (v := ?_) rfl ?_ ?_; rotate_left 1; (focus (intro wq_ hSq_; (try dsimp only at hSq_); go_simp; (try with_reducible rfl); done)); (try simp only [Act.put, List.setIfInBounds_toArray, List.set_cons_zero, List.set_cons_succ])) | (refine wpSeqB_pureG (v := ?_) rfl rfl ?_ ?_; rotate_left 1; (focus (intro wq_ hSq_; (try dsimp only at hSq_); go_simp; (try with_reducible rfl); done)); (try simp only [Act.put, List.setIfInBounds_toArray, List.set_cons_zero, List.set_cons_succ])) | (refine wpSeqB_off rfl rfl ?_; (try simp only [Act.put, List.setIfInBounds_toArray, List.set_cons_zero, List.set_cons_succ])) | (refine wpSeqB_offU rfl ?_; (try simp only [Act.put, List.setIfInBounds_toArray, List.set_cons_zero, List.set_cons_succ])))
                    first | refine wpSeqB_call rfl (fun K hK => ?_) | refine wpSeqB_callG rfl rfl (fun K hK => ?_)
                    go_simp
                    have s9 := bt s1 (Ext.allocR y1 (.cells #[.int .i64 (i : Int)] TIN))
                    refine hK.out _ _ s9 ?_
                    clear hK K
                    (try simp only [List.getElem_toArray, List.getElem_cons_succ, List.getElem_cons_zero, Act.put, List.setIfInBounds_toArray, List.set_cons_zero, List.set_cons_succ])
                    have hO9 := hO9'.below (Ext.allocR y1 (.cells #[.int .i64 (i : Int)] TIN))
                    have hZ9 := (OwI.lit1 (x := (i : Int)) (Ext.size s1)).ilv
                    first | refine wpSeqB_call rfl (fun K hK => ?_) | refine wpSeqB_callG rfl rfl (fun K hK => ?_)
                    refine wp_appI _ _ (by rfl) w7.heap.size (.slice A6 n6 c6) way (by rfl) hO9 (some ⟨y1.heap.size, 0, none⟩) 1 1 [(i : Int)] (by rfl) hZ9 (by omega) (by omega) (Ext.size s9) ?_
                    intro A10 n10 c10 w10 hO10 hB10 hG10
                    have s10 : Ext w7 w10 := Below.trans s9 hB10
                    refine hK.out _ _ s10 ?_
                    clear hK K
                    (try simp only [List.getElem_toArray, List.getElem_cons_succ, List.getElem_cons_zero, Act.put, List.setIfInBounds_toArray, List.set_cons_zero, List.set_cons_succ])
                    repeat (first | (refine wpSeqB_pure (v := ?_) rfl ?_ ?_; rotate_left 1; (focus (intro wq_ hSq_; (try dsimp only at hSq_); go_simp; (try with_reducible rfl); done)); (try simp only [Act.put, List.setIfInBounds_toArray, List.set_cons_zero, List.set_cons_succ])) | (refine wpSeqB_pureG (v := ?_) rfl rfl ?_ ?_; rotate_left 1; (focus (intro wq_ hSq_; (try dsimp only at hSq_); go_simp; (try with_reducible rfl); done)); (try simp only [Act.put, List.setIfInBounds_toArray, List.set_cons_zero, List.set_cons_succ])) | (refine wpSeqB_off rfl rfl ?_; (try simp only [Act.put, List.setIfInBounds_toArray, List.set_cons_zero, List.set_cons_succ])) | (refine wpSeqB_offU rfl ?_; (try simp only [Act.put, List.setIfInBounds_toArray, List.set_cons_zero, List.set_cons_succ])))
                    first | refine wpSeqB_call rfl (fun K hK => ?_) | refine wpSeqB_callG rfl rfl (fun K hK => ?_)
                    go_simp
                    refine hK.out _ _ s10 ?_
                    clear hK K
                    (try simp only [List.getElem_toArray, List.getElem_cons_succ, List.getElem_cons_zero, Act.put, List.setIfInBounds_toArray, List.set_cons_zero, List.set_cons_succ])
                    repeat (first | (refine wpSeqB_pure (v := ?_) rfl ?_ ?_; rotate_left 1; (focus (intro wq_ hSq_; (try dsimp only at hSq_); go_simp; (try with_reducible rfl); done)); (try simp only [Act.put, List.setIfInBounds_toArray, List.set_cons_zero, List.set_cons_succ])) | (refine wpSeqB_pureG (v := ?_) rfl rfl ?_ ?_; rotate_left 1; (focus (intro wq_ hSq_; (try dsimp only at hSq_); go_simp; (try with_reducible rfl); done)); (try simp only [Act.put, List.setIfInBounds_toArray, List.set_cons_zero, List.set_cons_succ])) | (refine wpSeqB_off rfl rfl ?_; (try simp only [Act.put, List.setIfInBounds_toArray, List.set_cons_zero, List.set_cons_succ])) | (refine wpSeqB_offU rfl ?_; (try simp only [Act.put, List.setIfInBounds_toArray, List.set_cons_zero, List.set_cons_succ])))
                    intro s_
                    refine wpB_end (by kernel_rfl) ?_
                    go_wp2_with fail
                    go_meet
                    exact ⟨_, _, _, rfl, hO10, s10⟩
                  · intro K hK
                    go_simp
                    have s1 := bt s0 (Ext.allocR wd (.cells #[.int .i64 (i : Int)] TIN))
                    refine hK.out _ _ s1 ?_
                    clear hK K
                    (try simp only [List.getElem_toArray, List.getElem_cons_succ, List.getElem_cons_zero, Act.put, List.setIfInBounds_toArray, List.set_cons_zero, List.set_cons_succ])
                    have Z0 := OwI.lit1 (x := (i : Int)) hBd
                    refine wpB_chunk (f := 0) (L' := #[true, true, true, true, true, true, true]) hsel_ hQ_ [(1, false, some 92, none), (5, false, some 96, none), (6, false, some 3, none)] _ _ _ (by kernel_rfl) s1 ?_
                    repeat (first | (refine wpSeqB_pure (v := ?_) rfl ?_ ?_; rotate_left 1; (focus (intro wq_ hSq_; (try dsimp only at hSq_); go_simp; (try with_reducible rfl); done)); (try simp only [Act.put, List.setIfInBounds_toArray, List.set_cons_zero, List.set_cons_succ])) | (refine wpSeqB_pureG (v := ?_) rfl rfl ?_ ?_; rotate_left 1; (focus (intro wq_ hSq_; (try dsimp only at hSq_); go_simp; (try with_reducible rfl); done)); (try simp only [Act.put, List.setIfInBounds_toArray, List.set_cons_zero, List.set_cons_succ])) | (refine wpSeqB_off rfl rfl ?_; (try simp only [Act.put, List.setIfInBounds_toArray, List.set_cons_zero, List.set_cons_succ])) | (refine wpSeqB_offU rfl ?_; (try simp only [Act.put, List.setIfInBounds_toArray, List.set_cons_zero, List.set_cons_succ])))
                    first | refine wpSeqB_call rfl (fun K hK => ?_) | refine wpSeqB_callG rfl rfl (fun K hK => ?_)
                    go_simp
                    refine (rclone_any A4 n4 c4 way _ (IW7.out.below s1) (by omega)).mono ?_
                    rintro e y1 ⟨z1, rfl, x1, bb1⟩
                    obtain ⟨A6, n6, c6, hz1, il6⟩ := x1.il3
                    subst hz1
                    have s9 : Ext w7 y1 := bt s1 bb1
                    have hO9 : OwI w7.heap.size y1 (.slice A6 n6 c6) way := x1.lower (Ext.size s1)
                    have hZ9 := (Z0.below bb1).ilv
                    (try go_wp2_with fail)
                    refine hK.out _ _ s9 ?_
                    clear hK K x1 il6 bb1
                    (try simp only [List.getElem_toArray, List.getElem_cons_succ, List.getElem_cons_zero, Act.put, List.setIfInBounds_toArray, List.set_cons_zero, List.set_cons_succ])
                    first | refine wpSeqB_call rfl (fun K hK => ?_) | refine wpSeqB_callG rfl rfl (fun K hK => ?_)
                    refine wp_appI _ _ (by rfl) w7.heap.size (.slice A6 n6 c6) way (by rfl) hO9 (some ⟨wd.heap.size, 0, none⟩) 1 1 [(i : Int)] (by rfl) hZ9 (by omega) (by omega) (Ext.size s9) ?_
                    intro A10 n10 c10 w10 hO10 hB10 hG10
                    have s10 : Ext w7 w10 := Below.trans s9 hB10
                    refine hK.out _ _ s10 ?_
                    clear hK K
                    (try simp only [List.getElem_toArray, List.getElem_cons_succ, List.getElem_cons_zero, Act.put, List.setIfInBounds_toArray, List.set_cons_zero, List.set_cons_succ])
                    repeat (first | (refine wpSeqB_pure (v := ?_) rfl ?_ ?_; rotate_left 1; (focus (intro wq_ hSq_; (try dsimp only at hSq_); go_simp; (try with_reducible rfl); done)); (try simp only [Act.put, List.setIfInBounds_toArray, List.set_cons_zero, List.set_cons_succ])) | (refine wpSeqB_pureG (v := ?_) rfl rfl ?_ ?_; rotate_left 1; (focus (intro wq_ hSq_; (try dsimp only at hSq_); go_simp; (try with_reducible rfl); done)); (try simp only [Act.put, List.setIfInBounds_toArray, List.set_cons_zero, List.set_cons_succ])) | (refine wpSeqB_off rfl rfl ?_; (try simp only [Act.put, List.setIfInBounds_toArray, List.set_cons_zero, List.set_cons_succ])) | (refine wpSeqB_offU rfl ?_; (try simp only [Act.put, List.setIfInBounds_toArray, List.set_cons_zero, List.set_cons_succ])))
                    first | refine wpSeqB_call rfl (fun K hK => ?_) | refine wpSeqB_callG rfl rfl (fun K hK => ?_)
                    go_simp
                    refine hK.out _ _ s10 ?_
                    clear hK K
                    (try simp only [List.getElem_toArray, List.getElem_cons_succ, List.getElem_cons_zero, Act.put, List.setIfInBounds_toArray, List.set_cons_zero, List.set_cons_succ])
                    repeat (first | (refine wpSeqB_pure (v := ?_) rfl ?_ ?_; rotate_left 1; (focus (intro wq_ hSq_; (try dsimp only at hSq_); go_simp; (try with_reducible rfl); done)); (try simp only [Act.put, List.setIfInBounds_toArray, List.set_cons_zero, List.set_cons_succ])) | (refine wpSeqB_pureG (v := ?_) rfl rfl ?_ ?_; rotate_left 1; (focus (intro wq_ hSq_; (try dsimp only at hSq_); go_simp; (try with_reducible rfl); done)); (try simp only [Act.put, List.setIfInBounds_toArray, List.set_cons_zero, List.set_cons_succ])) | (refine wpSeqB_off rfl rfl ?_; (try simp only [Act.put, List.setIfInBounds_toArray, List.set_cons_zero, List.set_cons_succ])) | (refine wpSeqB_offU rfl ?_; (try simp only [Act.put, List.setIfInBounds_toArray, List.set_cons_zero, List.set_cons_succ])))
                    intro s_
                    refine wpB_end (by kernel_rfl) ?_
                    go_wp2_with fail
                    go_meet
                    exact ⟨_, _, _, rfl, hO10, s10⟩
                case rest =>
                  obtain ⟨A7, n7, c7, rfl, ho7, hx7⟩ := hcut
                  have hlow := HV.out.low _ _ V7.out
                  have V8 := Lib.hid (HV.out.ext _ _ _ V7.out hx7)
                  have HO8 := Lib.hid (show OwI b1 wc (.slice A7 n7 c7) (way ++ [(i : Int)]) from ho7.lower hlow)
                  have HW8 := Lib.hid (show ∀ k ∈ way ++ [(i : Int)], 0 ≤ k ∧ k < (ts.length : Int) from fun k hk => by
                    rcases List.mem_append.1 hk with h | h
                    · exact HWY.out.2 k h
                    · rw [List.mem_singleton] at h; subst h; omega)
                  have K8 := Lib.hid (KG.ext (b1 := b1) (bt XW7.out hx7))
                  have hwl1 : (way ++ [(i : Int)]).length + n5 ≤ 60 := by rw [List.length_append]; simp only [List.length_cons, List.length_nil]; omega
                  clear kq hst7 ho7 hx7 hlow V7 B7 XW7
                  go_wp2_with fail
                  refine (IH.out A5 A7 n5 c5 n7 c7 I (way ++ [(i : Int)]) rest pre wc (by omega) HIS.out V8.out HRT.out HO8.out HW8.out hwl1 (by omega)).mono ?_
                  rintro e w9 ⟨vis1, hV9, hk9, hres⟩
                  rcases hres with ⟨hno, A9, n9, c9, rfl⟩ | ⟨es1, r1, A9, n9, c9, hso, rfl, hT9, hlt9, hmap9, hlen9⟩
                  · have HD := Lib.hid (show rdF ts (f + 1) (mems ws.length s) way (((i : Int), bs0) :: rest) = none by rw [HRF.out, hno])
                    have HZ := Lib.hid (show V vis1 w9 ∧ KG b1 w w9 from ⟨hV9, K8.out.trans hk9⟩)
                    clear hV9 hk9 hno
                    go_wp2
                    go_returns
                    exact ⟨_, HZ.out.1, HZ.out.2, Or.inl ⟨HD.out, _, _, _, rfl⟩⟩
                  · have V9 := Lib.hid hV9
                    have K9 := Lib.hid (K8.out.trans hk9)
                    have HO9 := Lib.hid (hk9.own HO8.out)
                    have T9 := Lib.hid hT9
                    have HSO := Lib.hid hso
                    have HM9 := Lib.hid hmap9
                    have l9 := hT9.le
                    have l9' := hT9.cap
                    have hwl2 : (way ++ [(i : Int)]).length + n9 ≤ 60 := by omega
                    have hvl2 : vis1.length + n9 ≤ 60 := by omega
                    have hn9f : n9 ≤ f := by omega
                    clear hV9 hk9 hso hT9 hmap9
                    go_wp2_with fail
                    refine (IH.out A9 A7 n9 c9 n7 c7 O (way ++ [(i : Int)]) r1 vis1 w9 hn9f HOS.out V9.out T9.out HO9.out HW8.out hwl2 hvl2).mono ?_
                    rintro e w10 ⟨vis2, hV10, hk10, hres⟩
                    rcases hres with ⟨hno, A10, n10, c10, rfl⟩ | ⟨es2, r2, A10, n10, c10, hso2, rfl, hT10, hlt10, hmap10, hlen10⟩
                    · have HD := Lib.hid (show rdF ts (f + 1) (mems ws.length s) way (((i : Int), bs0) :: rest) = none by rw [HRF.out, HSO.out]; simp only; rw [hno])
                      have HZ := Lib.hid (show V vis2 w10 ∧ KG b1 w w10 from ⟨hV10, K9.out.trans hk10⟩)
                      clear hV10 hk10 hno
                      go_wp2
                      go_returns
                      exact ⟨_, HZ.out.1, HZ.out.2, Or.inl ⟨HD.out, _, _, _, rfl⟩⟩
                    · have HD := Lib.hid (show rdF ts (f + 1) (mems ws.length s) way (((i : Int), bs0) :: rest) = some (es1 ++ es2, r2) by rw [HRF.out, HSO.out]; simp only; rw [hso2])
                      have HZ := Lib.hid (show V vis2 w10 ∧ KG b1 w w10 from ⟨hV10, K9.out.trans hk10⟩)
                      have HT := Lib.hid hT10
                      have HM := Lib.hid (show vis2.map (vEn ws.length) = pre.map (vEn ws.length) ++ (es1 ++ es2) by rw [hmap10, HM9.out, List.append_assoc])
                      have hc1 : n10 < n := by omega
                      have hc2 : vis2.length + n10 ≤ pre.length + n := by omega
                      clear hV10 hk10 hso2 hT10 hmap10
                      go_wp2
                      go_returns
                      exact ⟨_, HZ.out.1, HZ.out.2, Or.inr ⟨_, _, _, _, _, HD.out, rfl, HT.out, hc1, HM.out, hc2⟩⟩
abbrev TPP : TypeId := 90
abbrev TF3 : TypeId := 116
theorem PB.far {w : World} {g : Nat} {f : Nat → Value} (h : PB w g f) {p : Addr} (hp : g ≠ p.block) (u : Value) : PB (w.setCell p u) g f := by
  obtain ⟨cs, h1, h2, h3⟩ := h
  exact ⟨cs, Blk.far (t := TPL) h1 hp u, h2, h3⟩
theorem KG.set_ {b1 : Nat} {w w' : World} (h : KG b1 w w') {p : Addr} (hp : p.block < b1) (u : Value) : KG b1 w (w'.setCell p u) := by
  refine ⟨by simpa using h.1, fun b hb hl => ?_⟩
  rw [← h.2 b hb hl]
  exact Below.heap_setCell w' p u b (by omega)
/-- The frame of a reading: the plans, the boxes. -/
def RdV (ws : List Int) (ts : List Tt) (w0 : World) (tv sv fv : Value) (g B1 B2 b1 : Nat) (W : World) : Prop :=
  Ext w0 W ∧ PB W g (plG tv sv (pW ws) (pC ws ts) (pT ws ts) (2 ^ ws.length) 0 0 0) ∧ OwI (g + 1) W sv (shL ts ts.length) ∧ Blk W B1 TF3 #[fv] ∧ Blk W B2 TPP #[.pointer (some ⟨g, 0, none⟩)] ∧ b1 ≤ W.heap.size
section
variable {ws : List Int} {ts : List Tt} {w0 W W' : World} {tv sv fv : Value} {g B1 B2 b1 : Nat}
theorem RdV.ext (h : RdV ws ts w0 tv sv fv g B1 B2 b1 W) (hx : Ext W W') : RdV ws ts w0 tv sv fv g B1 B2 b1 W' :=
  ⟨bt h.1 hx, h.2.1.below hx, h.2.2.1.below hx, h.2.2.2.1.below hx, h.2.2.2.2.1.below hx, Nat.le_trans h.2.2.2.2.2 (Ext.size hx)⟩
theorem RdV.far (h : RdV ws ts w0 tv sv fv g B1 B2 b1 W) {p : Addr} (h0 : w0.heap.size ≤ p.block) (hg : p.block < g) (h1 : B1 ≠ p.block) (h2 : B2 ≠ p.block) (u : Value) : RdV ws ts w0 tv sv fv g B1 B2 b1 (W.setCell p u) :=
  ⟨Below.setCell h.1 h0 u, h.2.1.far (by omega) u, h.2.2.1.far (by omega) u, h.2.2.2.1.far h1 u, h.2.2.2.2.1.far h2 u, by simpa using h.2.2.2.2.2⟩
def csV (ws : List Int) (ts : List Tt) (pre : List Vt) : Int := (pre.map fun v => pW ws v.1 * csW ts v.2).sum
theorem csV_snoc (pre : List Vt) (v : Vt) : csV ws ts (pre ++ [v]) = csV ws ts pre + pW ws v.1 * csW ts v.2 := by unfold csV; rw [List.map_append, List.sum_append]; simp
theorem csV_es (h : Cv ws ts) : ∀ (vis : List Vt), csE ws ts (vis.map (vEn ws.length)) = csV ws ts vis
  | [] => rfl
  | v :: vis => by
    have ih := csV_es h vis
    unfold csE csV at *
    rw [List.map_cons, List.map_cons, List.map_cons, List.sum_cons, List.sum_cons, ih]
    show csW ts v.2 * wS ws (mems ws.length v.1) + _ = _
    rw [← pW_wS h, Int.mul_comm]
/-- While the cost is added up. -/
def CoW (ws : List Int) (ts : List Tt) (w0 : World) (tv sv fv : Value) (g B1 B2 b1 S T4 : Nat) (x : Int) (W : World) : Prop :=
  RdV ws ts w0 tv sv fv g B1 B2 b1 W ∧ Blk W S TIN #[.int .i64 x] ∧ Blk W T4 TTS #[tv]
theorem CoW.ext {S T4 : Nat} {x : Int} (h : CoW ws ts w0 tv sv fv g B1 B2 b1 S T4 x W) (hx : Ext W W') : CoW ws ts w0 tv sv fv g B1 B2 b1 S T4 x W' := ⟨h.1.ext hx, h.2.1.below hx, h.2.2.below hx⟩
theorem CoW.set_ {S T4 : Nat} {x : Int} (h : CoW ws ts w0 tv sv fv g B1 B2 b1 S T4 x W) (h0 : w0.heap.size ≤ S) (hg : S < g) (h1 : B1 ≠ S) (h2 : B2 ≠ S) (h4 : T4 ≠ S) (y : Int) : CoW ws ts w0 tv sv fv g B1 B2 b1 S T4 y (W.setCell ⟨S, 0, none⟩ (.int .i64 y)) :=
  ⟨h.1.far h0 hg h1 h2 _, h.2.1.set_ 0 _, h.2.2.far h4 _⟩
end
set_option maxHeartbeats 6400000 in
set_option maxRecDepth 100000 in
theorem rcost1_any (ws : List Int) (ts : List Tt) (hv : Cv ws ts) (w0 : World) (A' : Option Addr) (m d : Nat) (hT : Ts w0 A' m d ts) (sv fv : Value) (g B1 B2 b1 S T4 : Nat) (h0 : w0.heap.size ≤ S) (hg : S < g) (h1 : B1 ≠ S) (h2 : B2 ≠ S) (h4 : T4 ≠ S) (hb : S < b1)
    (x : Int) (s : Nat) (way : List Int) (A : Option Addr) (n c : Nat) (w : World) (hs : s < 2 ^ ws.length) (hC : CoW ws ts w0 (.slice A' m d) sv fv g B1 B2 b1 S T4 x w) (hx : 0 ≤ x ∧ x ≤ 36000000000) (how : OwI b1 w (.slice A n c) way)
    (hwr : ∀ k ∈ way, 0 ≤ k ∧ k < (ts.length : Int)) (hn : n ≤ 60) :
    Calls Tryd.prog 66 #[.pointer (some ⟨g, 0, none⟩), .int .i64 (s : Int), .slice A n c, .pointer (some ⟨S, 0, none⟩), .pointer (some ⟨T4, 0, none⟩)] w
      fun e w' => ∃ v, e = .returned v ∧ CoW ws ts w0 (.slice A' m d) sv fv g B1 B2 b1 S T4 (x + pW ws s * csW ts way) w' ∧ KG b1 w w' := by
  have hmd := hT.le
  have hdd := hT.cap
  have hml := hT.len
  have hs1 : s < 1024 := Nat.lt_of_lt_of_le hs (pow_le_1024 hv.len10)
  have ps1 : (s : Int) < 1024 := by omega
  have il := how.ilv
  have hle := il.le
  have hcap := il.cap
  have hlen := il.len
  have HT := Lib.hid hT
  have HO := Lib.hid how
  have HR := Lib.hid hwr
  have HC := Lib.hid hC
  have HS := Lib.hid hs
  have hpw := pW_bd hv s
  obtain ⟨P, hP⟩ : ∃ P, pW ws s = P := ⟨_, rfl⟩
  rw [hP] at hpw ⊢
  have HP := Lib.hid hP
  clear il hT how hwr hC hs hP
  go_enter Tryd.func66, Tryd.ntmps66
  go_wp2
  go_loopw [12] (fun i wr => ∃ k : Nat, k ≤ n ∧ i = .int .i64 (k : Int) ∧ CoW ws ts w0 (.slice A' m d) sv fv g B1 B2 b1 S T4 (x + P * csW ts (way.take k)) wr ∧ KG b1 w wr) (fun i _ => n - (intOf i).toNat)
  case atStart => exact ⟨0, by omega, rfl, by simpa [csW] using HC.out, KG.refl _ _⟩
  case round =>
    obtain ⟨k, hk, rfl, hcw, hkg⟩ := hrel
    have HK := Lib.hid hkg
    have HCW := Lib.hid hcw
    by_cases hkn : k < n
    · have pk : (k : Int) < (n : Int) := by omega
      have hkl : k < way.length := by omega
      obtain ⟨bW, oW, rfl, hcW⟩ := (hkg.own HO.out).ilv.at_ (by omega)
      have ckW := hcW k hkn
      have hyr := HR.out _ (getD_in (d := 0) hkl)
      obtain ⟨y, hy⟩ : ∃ y : Nat, way.getD k 0 = (y : Int) := ⟨(way.getD k 0).toNat, by omega⟩
      rw [hy] at ckW hyr
      have hym : y < m := by omega
      have pym : (y : Int) < (m : Int) := by omega
      obtain ⟨bT, oT, rfl, hcT⟩ := (HT.out.below hcw.1.1).at_ (by omega)
      obtain ⟨ckT, _⟩ := hcT y hym
      have hcb := cost_bd hv y
      obtain ⟨z, hz⟩ : ∃ z, tC ts y = z := ⟨_, rfl⟩
      rw [hz] at ckT hcb
      have hst := csW_take (ts := ts) hkl
      rw [hy, Int.toNat_natCast, hz] at hst
      have hb1 := csW_bd (ts := ts) (l := way.take k) (cost_bd hv)
      rw [List.length_take] at hb1
      obtain ⟨Q, hQ⟩ : ∃ Q, csW ts (way.take k) = Q := ⟨_, rfl⟩
      rw [hQ] at hst hb1 HCW hcw
      have hb2 : 0 ≤ Q ∧ Q ≤ 60000 := by omega
      have hPQ : 0 ≤ P * Q ∧ P * Q ≤ 600000000 := ⟨Int.mul_nonneg hpw.1 hb2.1, Int.le_trans (Int.mul_le_mul hpw.2 hb2.2 hb2.1 (by omega)) (by decide)⟩
      have hPz : 0 ≤ P * z ∧ P * z ≤ 10000000 := ⟨Int.mul_nonneg hpw.1 hcb.1, Int.le_trans (Int.mul_le_mul hpw.2 hcb.2 hcb.1 (by omega)) (by decide)⟩
      have HST := Lib.hid (show x + P * csW ts (way.take (k + 1)) = x + P * Q + P * z by rw [hst, Int.mul_add, Int.add_assoc])
      obtain ⟨X, hX⟩ : ∃ X, x + P * Q = X := ⟨_, rfl⟩
      obtain ⟨Z, hZ⟩ : ∃ Z, P * z = Z := ⟨_, rfl⟩
      rw [hX, hZ] at HST
      rw [hZ] at hPz
      rw [hX] at HCW hcw
      have hXb : 0 ≤ X ∧ X ≤ 36600000000 := by omega
      have w1 : IntKind.i64.wrap (P * z) = Z := by rw [hZ]; exact IntWalk.i64_in _ (by omega)
      have w2 : IntKind.i64.wrap (X + Z) = X + Z := IntWalk.i64_in _ (by omega)
      have cw := hcw.1.2.1.cell (j := 2 + s) (by omega)
      rw [plG_w hs1, if_pos HS.out, HP.out] at cw
      have k1 := fun w' (hh : Ext wr w') => (show w'.cell? ⟨g, 2 + s, none⟩ = some (.int .i64 P) from Ext.cell hh cw)
      have k2 := fun w' (hh : Ext wr w') => (hcw.2.1.below hh).cells
      have k3 := fun w' (hh : Ext wr w') => (hcw.2.2.below hh).cells
      have k4 := fun w' (hh : Ext wr w') => (show w'.cell? ⟨bT, oT + y * 2, none⟩ = some (.int .i64 z) from Ext.cell hh ckT)
      simp only [cellsAre, Nat.zero_add, Nat.reduceAdd, and_true] at k2 k3
      have hst0 : Ext wr wr.drew := Ext.drew _
      clear hcW hcT ckT cw hst hQ hX hZ hz hb1 hPQ hb2 hkg hcw hy hyr
      go_upto_region 3 with fail
      refine wp_region_adv 13 [] [(0, true, some 16, none), (1, true, some 17, none), (2, true, some 18, none), (3, true, some 19, none), (4, true, some 20, none), (5, true, some 21, none), (6, true, some 22, none), (7, true, some 23, none), (8, true, some 24, none), (9, true, some 25, none), (10, true, some 26, none), (11, true, some 27, none), (12, true, some 28, none)] (by kernel_rfl) (by kernel_rfl) (by kernel_rfl) (by intro it hit; (repeat (rcases List.mem_cons.1 hit with rfl | hit; (focus (intro o ho ev w; injection ho with ho; subst ho; kernel_rfl)))); cases hit) (fun _ _ _ _ _ => ⟨fun h => h, fun h => h⟩) hst0 ?_
      repeat (first | (refine wpSeq_pure (v := ?_) rfl ?_ ?_; rotate_left 1; (focus (intro wq_ hSq_; (try dsimp only at hSq_); go_simp; (try with_reducible rfl); done)); (try simp only [Act.put, List.setIfInBounds_toArray, List.set_cons_zero, List.set_cons_succ])) | (refine wpSeq_pureG (v := ?_) rfl rfl ?_ ?_; rotate_left 1; (focus (intro wq_ hSq_; (try dsimp only at hSq_); go_simp; (try with_reducible rfl); done)); (try simp only [Act.put, List.setIfInBounds_toArray, List.set_cons_zero, List.set_cons_succ])) | (refine wpSeq_off rfl rfl ?_; (try simp only [Act.put, List.setIfInBounds_toArray, List.set_cons_zero, List.set_cons_succ])))
      intro wz gz sz_
      (try simp only [endJ, List.drop_succ_cons, List.drop_zero])
      have CZ := Lib.hid (HCW.out.ext sz_)
      have kz := CZ.out.2.1.cells
      have fz := Blk.free CZ.out.2.1 0
      have hKZ := Lib.hid (HK.out.trans (KG.ext sz_))
      simp only [cellsAre, Nat.zero_add, Nat.reduceAdd, and_true] at kz
      clear k1 k2 k3 k4 hst0 gz sz_
      go_wp2
      go_roundw
      case rel => exact ⟨k + 1, by omega, by go_num, by rw [HST.out]; exact CZ.out.set_ h0 hg h1 h2 h4 _, hKZ.out.set_ hb _⟩
      case measure => simp [intOf]; omega
    · obtain rfl : k = n := by omega
      have HE := Lib.hid (show way.take k = way from List.take_of_length_le (by omega))
      clear hkg hcw
      go_wp2
      go_end0
      exact ⟨_, rfl, by rw [← HE.out]; exact HCW.out, HK.out⟩
set_option maxHeartbeats 6400000 in
set_option maxRecDepth 100000 in
theorem rread_any (K : Nat) (caps : Array Value) (A A' A2 : Option Addr) (n c m d p d2 : Nat) (ws : List Int) (ts plan : List Tt) (w0 w1 : World) (h : Il w0 A n c ws) (h' : Ts w0 A' m d ts) (h2 : Ts w0 A2 p d2 plan) (ht : Tab w0) (hx : Ext w0 w1) (hp : p ≤ 60)
    (Fr : List Vt → World → Prop) (h0 : Fr [] w1) (hF : Hid (∀ pre W W', Fr pre W → Ext W W' → Fr pre W'))
    (hc : Hid (∀ sv g B1 B2 b1, w1.heap.size ≤ B1 → B1 < g → g < B2 → B2 < b1 → Cv ws ts → ∀ (pre : List Vt) (s : Nat) (way : List Int) A n c W, s < 2 ^ ws.length → RdV ws ts w0 (.slice A' m d) sv (.func (.func K) #[] caps) g B1 B2 b1 W → Fr pre W → OwI b1 W (.slice A n c) way →
      (∀ k ∈ way, 0 ≤ k ∧ k < (ts.length : Int)) → pre.length ≤ 60 → n ≤ 60 →
      Calls Tryd.prog 82 #[.int .i64 (s : Int), .slice A n c, .pointer (some ⟨B1, 0, none⟩), .pointer (some ⟨B2, 0, none⟩)] W fun e W' => ∃ v, e = .returned v ∧ RdV ws ts w0 (.slice A' m d) sv (.func (.func K) #[] caps) g B1 B2 b1 W' ∧ Fr (pre ++ [((s, way) : Vt)]) W' ∧ KG b1 W W')) :
    Calls Tryd.prog 65 #[.slice A n c, .slice A' m d, .slice A2 p d2, .func (.func K) #[] caps] w1 fun e w' =>
      Ext w0 w' ∧ ((¬ Cv ws ts ∧ e = .returned (.int .i64 1) ∧ Fr [] w') ∨ (Cv ws ts ∧ ∃ vis, Fr vis w' ∧ ((∃ es, rdF ts p (upL n) [] plan = some (es, []) ∧ e = .returned (.int .i64 0) ∧ vis.map (vEn n) = es ∧ vis.length ≤ 60) ∨ (okR (rdF ts p (upL n) [] plan) = false ∧ e = .returned (.int .i64 2))))) := by
  have hn := h.le
  have hcc := h.cap
  have hm := h'.le
  have hd := h'.cap
  have hp2 := h2.le
  have hd2 := h2.cap
  have HL := Lib.hid h.len
  have HML := Lib.hid h'.len
  have H := Lib.hid h
  have H' := Lib.hid h'
  have H2 := Lib.hid h2
  have HT := Lib.hid ht
  have HX := Lib.hid hx
  have H0 := Lib.hid h0
  clear h h' h2 ht hx h0
  go_enter Tryd.func65, Tryd.ntmps65
  go_upto_region 1 with fail
  have b3 : Blk (w1.alloc (.cells #[.func (.func K) #[] caps] TF3)) w1.heap.size TF3 #[.func (.func K) #[] caps] := Blk.new_ _ _ rfl
  have x3 : Ext w1 (w1.alloc (.cells #[.func (.func K) #[] caps] TF3)) := Ext.allocR _ _
  refine wp_world (fun W3 => Blk W3 w1.heap.size TF3 #[.func (.func K) #[] caps] ∧ Ext w1 W3) ⟨b3, x3⟩ ?_
  clear b3 x3
  rintro W3 ⟨b3, x3⟩
  obtain ⟨B1, hB1⟩ : ∃ g, w1.heap.size = g := ⟨_, rfl⟩
  rw [hB1] at b3 ⊢
  have hbl := b3.lt
  have HB1 := Lib.hid hB1
  have B3 := Lib.hid b3
  have X3 := Lib.hid x3
  clear b3 x3 hB1
  go_wp2_with fail
  refine (rcheck_any A A' n c m d ws ts W3 (H.out.below (bt HX.out X3.out)) (H'.out.below (bt HX.out X3.out))).mono ?_
  rintro e w4 ⟨v4, rfl, hv4, hb4⟩
  have X4 := Lib.hid (bt X3.out hb4)
  have B4 := Lib.hid (B3.out.below hb4)
  have hbl4 := B4.out.lt
  by_cases hcv : Cv ws ts
  rotate_left
  · rw [hv4.2 hcv]
    have HE := Lib.hid (And.intro (bt HX.out X4.out) (And.intro hcv (hF.out _ _ _ H0.out X4.out)))
    clear hv4 hcv hb4
    go_wp2
    go_returns
    exact ⟨HE.out.1, Or.inl ⟨HE.out.2.1, rfl, HE.out.2.2⟩⟩
  rw [hv4.1 hcv]
  have hn10 : n ≤ 10 := by rw [← HL.out]; exact hcv.len10
  have HV := Lib.hid hcv
  clear hv4 hcv hb4 hbl
  obtain ⟨N, hN⟩ : ∃ N : Nat, 2 ^ n = N := ⟨_, rfl⟩
  have hN1 : N ≤ 1024 := by rw [← hN]; exact pow_le_1024 hn10
  have hN0 : 0 < N := by rw [← hN]; exact Nat.two_pow_pos n
  have wN := wrap_pow n N hN (by omega)
  have HN2 := Lib.hid (show 2 ^ ws.length = N by rw [HL.out, hN])
  have HU := Lib.hid (show upL n = mems ws.length (N - 1) by rw [upL_mems, HL.out, hN])
  clear hN
  go_wp2_with fail
  refine (rsolve_any A A' n c m d ws ts w4 (H.out.below (bt HX.out X4.out)) (H'.out.below (bt HX.out X4.out)) HV.out).mono ?_
  rintro e w5 ⟨v5, rfl, ⟨rfl, hsol⟩, hb5⟩
  obtain ⟨sv, hpb, hsv⟩ := hsol.ex
  obtain ⟨A3, c3, hsve, _⟩ := hsv.il2 (shL_len ts ts.length)
  subst hsve
  obtain ⟨g, hg⟩ : ∃ g, w4.heap.size = g := ⟨_, rfl⟩
  rw [hg] at hpb hsv hbl4 ⊢
  have hgl := hpb.lt
  have HPB := Lib.hid (And.intro hpb hsv)
  have X5 := Lib.hid (bt X4.out hb5)
  have B5 := Lib.hid (B4.out.below hb5)
  clear hsol hpb hsv hg hb5
  go_upto_region 5 with fail
  have b6 : Blk (w5.alloc (.cells #[.pointer (some ⟨g, 0, none⟩)] TPP)) w5.heap.size TPP #[.pointer (some ⟨g, 0, none⟩)] := Blk.new_ _ _ rfl
  have x6 : Ext w5 (w5.alloc (.cells #[.pointer (some ⟨g, 0, none⟩)] TPP)) := Ext.allocR _ _
  refine wp_world (fun W3 => Blk W3 w5.heap.size TPP #[.pointer (some ⟨g, 0, none⟩)] ∧ Ext w5 W3) ⟨b6, x6⟩ ?_
  clear b6 x6
  rintro W6 ⟨b6, x6⟩
  obtain ⟨B2, hB2⟩ : ∃ g, w5.heap.size = g := ⟨_, rfl⟩
  rw [hB2] at b6 hgl ⊢
  have hb6l := b6.lt
  obtain ⟨b1, hb1⟩ : ∃ b1, W6.heap.size = b1 := ⟨_, rfl⟩
  rw [hb1] at hb6l
  have HR6 := Lib.hid (show RdV ws ts w0 (.slice A' m d) (.slice A3 ts.length c3) (.func (.func K) #[] caps) g B1 B2 b1 W6 from ⟨bt HX.out (bt X5.out x6), HPB.out.1.below x6, HPB.out.2.below x6, B5.out.below x6, b6, Nat.le_of_eq hb1.symm⟩)
  have HF6 := Lib.hid (hF.out _ _ _ H0.out (bt X5.out x6))
  have HVP : Hid (VisP ws ts (.slice A' m d) g A3 c3 w0 b1 B1 B2 (fun pre W => RdV ws ts w0 (.slice A' m d) (.slice A3 ts.length c3) (.func (.func K) #[] caps) g B1 B2 b1 W ∧ Fr pre W)) := Lib.hid {
    ext := fun pre W W' hV hxx => ⟨hV.1.ext hxx, hF.out _ _ _ hV.2 hxx⟩
    low := fun pre W hV => hV.1.2.2.2.2.2
    pl := fun pre W hV => ⟨⟨hV.1.2.1, by
      obtain ⟨A9, c9, e9, il9⟩ := hV.1.2.2.1.il2 (shL_len ts ts.length)
      injection e9 with e1 _ e3
      subst e1 e3
      exact il9, HT.out.below hV.1.1⟩, hV.1.1⟩
    call := fun pre s way A n c W hs hV hO hr hl hnn => (hc.out _ g B1 B2 b1 (Nat.le_of_eq HB1.out) hbl4 hgl hb6l HV.out pre s way A n c W hs hV.1 hV.2 hO hr hl hnn).mono fun e W' ⟨v, he, h1, h3, h4⟩ => ⟨v, he, ⟨h1, h3⟩, h4⟩ }
  have kq := fun w' (hh : RdV ws ts w0 (.slice A' m d) (.slice A3 ts.length c3) (.func (.func K) #[] caps) g B1 B2 b1 w') => hh.2.2.2.2.1.cells
  simp only [cellsAre, Nat.zero_add, Nat.reduceAdd, and_true] at kq
  have hst : Ext W6 W6.drew := Ext.drew _
  obtain ⟨F, hFe⟩ : ∃ F, N - 1 = F := ⟨_, rfl⟩
  have eF : (N : Int) - 1 = (F : Int) := by omega
  rw [hFe] at HU
  have HFl := Lib.hid (show F < 2 ^ ws.length by rw [HN2.out]; omega)
  clear b6 x6 hB2 hb1 hFe hc HPB B3 B4 B5
  refine wp_region_brn (S := (RdV ws ts w0 (.slice A' m d) (.slice A3 ts.length c3) (.func (.func K) #[] caps) g B1 B2 b1)) (by kernel_rfl) (by kernel_rfl) (fun _ _ _ _ _ => ⟨fun h => h, fun h => h⟩) ?_
  intro hsel_ hQ_
  obtain ⟨wd, hwd⟩ : ∃ wd, W6.drew = wd := ⟨_, rfl⟩
  rw [hwd] at hst ⊢
  have hst0 : RdV ws ts w0 (.slice A' m d) (.slice A3 ts.length c3) (.func (.func K) #[] caps) g B1 B2 b1 wd := HR6.out.ext hst
  refine wpB_chunk (f := 0) (L' := #[true, true, true, true, true, true, true, true, true, true, true, true, true]) hsel_ hQ_ [(0, true, some 23, none), (1, true, some 24, none), (2, true, some 25, none), (3, true, some 26, none), (4, true, some 27, none), (5, true, some 28, none), (6, false, some 29, none), (7, false, some 30, none), (8, true, some 22, none), (9, true, some 31, none), (10, true, some 32, none), (11, false, some 11, none), (12, false, some 12, none)] _ _ _ (by kernel_rfl) hst0 ?_
  repeat (first | (refine wpSeqB_pure (v := ?_) rfl ?_ ?_; rotate_left 1; (focus (intro wq_ hSq_; (try dsimp only at hSq_); go_simp; (try with_reducible rfl); done)); (try simp only [Act.put, List.setIfInBounds_toArray, List.set_cons_zero, List.set_cons_succ])) | (refine wpSeqB_pureG (v := ?_) rfl rfl ?_ ?_; rotate_left 1; (focus (intro wq_ hSq_; (try dsimp only at hSq_); go_simp; (try with_reducible rfl); done)); (try simp only [Act.put, List.setIfInBounds_toArray, List.set_cons_zero, List.set_cons_succ])) | (refine wpSeqB_off rfl rfl ?_; (try simp only [Act.put, List.setIfInBounds_toArray, List.set_cons_zero, List.set_cons_succ])) | (refine wpSeqB_offU rfl ?_; (try simp only [Act.put, List.setIfInBounds_toArray, List.set_cons_zero, List.set_cons_succ])))
  first | refine wpSeqB_call rfl (fun K hK => ?_) | refine wpSeqB_callG rfl rfl (fun K hK => ?_)
  go_simp
  refine hK.out _ _ hst0 ?_
  clear hK K
  (try simp only [List.getElem_toArray, List.getElem_cons_succ, List.getElem_cons_zero, Act.put, List.setIfInBounds_toArray, List.set_cons_zero, List.set_cons_succ])
  repeat (first | (refine wpSeqB_pure (v := ?_) rfl ?_ ?_; rotate_left 1; (focus (intro wq_ hSq_; (try dsimp only at hSq_); go_simp; (try with_reducible rfl); done)); (try simp only [Act.put, List.setIfInBounds_toArray, List.set_cons_zero, List.set_cons_succ])) | (refine wpSeqB_pureG (v := ?_) rfl rfl ?_ ?_; rotate_left 1; (focus (intro wq_ hSq_; (try dsimp only at hSq_); go_simp; (try with_reducible rfl); done)); (try simp only [Act.put, List.setIfInBounds_toArray, List.set_cons_zero, List.set_cons_succ])) | (refine wpSeqB_off rfl rfl ?_; (try simp only [Act.put, List.setIfInBounds_toArray, List.set_cons_zero, List.set_cons_succ])) | (refine wpSeqB_offU rfl ?_; (try simp only [Act.put, List.setIfInBounds_toArray, List.set_cons_zero, List.set_cons_succ])))
  first | refine wpSeqB_call rfl (fun K hK => ?_) | refine wpSeqB_callG rfl rfl (fun K hK => ?_)
  go_simp
  rw [IntWalk.i64_left ((2 : Int) ^ n), wN, eF, IntWalk.i64_in (F : Int) (by omega)]
  refine (rwalk_any ws ts HV.out A' m d g HML.out hm hd A3 c3 w0 b1 B1 B2 _ HVP p A2 none p d2 0 0 F [] plan [] wd (Nat.le_refl _) HFl.out ⟨HR6.out.ext hst, hF.out _ _ _ HF6.out hst⟩ H2.out (OwI.nil _ _) (fun k hk => by cases hk) (by simp; omega) (by simp; omega)).mono ?_
  rintro e y1 ⟨vis, hV, hkg, hres⟩
  rw [HL.out] at hres
  have hfin : ∃ (A9 : Option Addr) (n9 c9 : Nat) (b9 : Bool), e = .returned (.tuple #[.slice A9 n9 c9, .bool b9]) ∧ ((b9 = true ∧ n9 = 0 ∧ ∃ es, rdF ts p (upL n) [] plan = some (es, []) ∧ vis.map (vEn n) = es ∧ vis.length ≤ 60) ∨ ((b9 = false ∨ 0 < n9) ∧ okR (rdF ts p (upL n) [] plan) = false)) := by
    rw [HU.out, HL.out]
    rcases hres with ⟨hno, A9, n9, c9, rfl⟩ | ⟨es, r, A9, n9, c9, hso, rfl, hT9, hlt, hmap, hlen⟩
    · exact ⟨_, _, _, _, rfl, Or.inr ⟨Or.inl rfl, by rw [hno]; rfl⟩⟩
    · by_cases h9 : n9 = 0
      · subst h9
        have hr : r = [] := List.eq_nil_of_length_eq_zero hT9.len
        subst hr
        exact ⟨_, _, _, _, rfl, Or.inl ⟨rfl, rfl, es, hso, by simpa using hmap, by simp at hlen; omega⟩⟩
      · refine ⟨_, _, _, _, rfl, Or.inr ⟨Or.inr (by omega), ?_⟩⟩
        rw [hso]
        cases r with
        | nil => exact absurd hT9.len.symm h9
        | cons b r => rfl
  obtain ⟨A9, n9, c9, b9, rfl, hres9⟩ := hfin
  have HV1 := Lib.hid (show Ext w0 y1 ∧ Fr vis y1 from ⟨hV.1.1, hV.2⟩)
  have HRS := Lib.hid hres9
  have hx1 := hV.1
  clear hV hkg hres hres9
  (try go_wp2_with fail)
  refine hK.out _ _ hx1 ?_
  clear hK K
  (try simp only [List.getElem_toArray, List.getElem_cons_succ, List.getElem_cons_zero, Act.put, List.setIfInBounds_toArray, List.set_cons_zero, List.set_cons_succ])
  repeat (first | (refine wpSeqB_pure (v := ?_) rfl ?_ ?_; rotate_left 1; (focus (intro wq_ hSq_; (try dsimp only at hSq_); go_simp; (try with_reducible rfl); done)); (try simp only [Act.put, List.setIfInBounds_toArray, List.set_cons_zero, List.set_cons_succ])) | (refine wpSeqB_pureG (v := ?_) rfl rfl ?_ ?_; rotate_left 1; (focus (intro wq_ hSq_; (try dsimp only at hSq_); go_simp; (try with_reducible rfl); done)); (try simp only [Act.put, List.setIfInBounds_toArray, List.set_cons_zero, List.set_cons_succ])) | (refine wpSeqB_off rfl rfl ?_; (try simp only [Act.put, List.setIfInBounds_toArray, List.set_cons_zero, List.set_cons_succ])) | (refine wpSeqB_offU rfl ?_; (try simp only [Act.put, List.setIfInBounds_toArray, List.set_cons_zero, List.set_cons_succ])))
  first | refine wpSeqB_call rfl (fun K hK => ?_) | refine wpSeqB_callG rfl rfl (fun K hK => ?_)
  go_simp
  refine hK.out _ _ hx1 ?_
  clear hK K
  (try simp only [List.getElem_toArray, List.getElem_cons_succ, List.getElem_cons_zero, Act.put, List.setIfInBounds_toArray, List.set_cons_zero, List.set_cons_succ])
  repeat (first | (refine wpSeqB_pure (v := ?_) rfl ?_ ?_; rotate_left 1; (focus (intro wq_ hSq_; (try dsimp only at hSq_); go_simp; (try with_reducible rfl); done)); (try simp only [Act.put, List.setIfInBounds_toArray, List.set_cons_zero, List.set_cons_succ])) | (refine wpSeqB_pureG (v := ?_) rfl rfl ?_ ?_; rotate_left 1; (focus (intro wq_ hSq_; (try dsimp only at hSq_); go_simp; (try with_reducible rfl); done)); (try simp only [Act.put, List.setIfInBounds_toArray, List.set_cons_zero, List.set_cons_succ])) | (refine wpSeqB_off rfl rfl ?_; (try simp only [Act.put, List.setIfInBounds_toArray, List.set_cons_zero, List.set_cons_succ])) | (refine wpSeqB_offU rfl ?_; (try simp only [Act.put, List.setIfInBounds_toArray, List.set_cons_zero, List.set_cons_succ])))
  first | refine wpSeqB_call rfl (fun K hK => ?_) | refine wpSeqB_callG rfl rfl (fun K hK => ?_)
  go_simp
  refine hK.out _ _ hx1 ?_
  clear hK K
  (try simp only [List.getElem_toArray, List.getElem_cons_succ, List.getElem_cons_zero, Act.put, List.setIfInBounds_toArray, List.set_cons_zero, List.set_cons_succ])
  repeat (first | (refine wpSeqB_pure (v := ?_) rfl ?_ ?_; rotate_left 1; (focus (intro wq_ hSq_; (try dsimp only at hSq_); go_simp; (try with_reducible rfl); done)); (try simp only [Act.put, List.setIfInBounds_toArray, List.set_cons_zero, List.set_cons_succ])) | (refine wpSeqB_pureG (v := ?_) rfl rfl ?_ ?_; rotate_left 1; (focus (intro wq_ hSq_; (try dsimp only at hSq_); go_simp; (try with_reducible rfl); done)); (try simp only [Act.put, List.setIfInBounds_toArray, List.set_cons_zero, List.set_cons_succ])) | (refine wpSeqB_off rfl rfl ?_; (try simp only [Act.put, List.setIfInBounds_toArray, List.set_cons_zero, List.set_cons_succ])) | (refine wpSeqB_offU rfl ?_; (try simp only [Act.put, List.setIfInBounds_toArray, List.set_cons_zero, List.set_cons_succ])))
  intro s_
  refine wpB_end (by kernel_rfl) ?_
  clear s_ hx1 hst hst0 kq
  by_cases hgood : b9 = true ∧ n9 = 0
  · obtain ⟨rfl, rfl⟩ := hgood
    have HQ : Hid (∃ es, rdF ts p (upL n) [] plan = some (es, []) ∧ vis.map (vEn n) = es ∧ vis.length ≤ 60) := by
      rcases HRS.out with ⟨_, _, h⟩ | ⟨h | h, _⟩
      · exact h
      · cases h
      · omega
    go_wp2
    go_returns
    obtain ⟨es, e1, e2, e3⟩ := HQ.out
    exact ⟨HV1.out.1, Or.inr ⟨HV.out, vis, HV1.out.2, Or.inl ⟨es, e1, rfl, e2, e3⟩⟩⟩
  · have HQ : Hid (okR (rdF ts p (upL n) [] plan) = false) := by
      rcases HRS.out with ⟨h1, h2, _⟩ | ⟨_, h⟩
      · exact absurd ⟨h1, h2⟩ hgood
      · exact h
    cases b9 with
    | false =>
      go_wp2
      go_returns
      exact ⟨HV1.out.1, Or.inr ⟨HV.out, vis, HV1.out.2, Or.inr ⟨HQ.out, rfl⟩⟩⟩
    | true =>
      have h9 : 0 < n9 := by
        apply Classical.byContradiction
        intro h
        exact hgood ⟨rfl, by omega⟩
      have p9 : (0 : Int) < (n9 : Int) := by omega
      go_wp2
      go_returns
      exact ⟨HV1.out.1, Or.inr ⟨HV.out, vis, HV1.out.2, Or.inr ⟨HQ.out, rfl⟩⟩⟩
/-- What Cost returns. -/
def CstR (ws : List Int) (ts : List Tt) (n p : Nat) (plan : List Tt) (v : Value) (_ : World) : Prop := (¬ Cv ws ts → v = .tuple #[.int .i64 0, .int .i64 1]) ∧
  (Cv ws ts → (∀ es, rdF ts p (upL n) [] plan = some (es, []) → v = .tuple #[.int .i64 (csE ws ts es), .int .i64 0]) ∧ (okR (rdF ts p (upL n) [] plan) = false → v = .tuple #[.int .i64 0, .int .i64 2]))
def CoF (ws : List Int) (ts : List Tt) (tv : Value) (S T4 : Nat) (pre : List Vt) (W : World) : Prop := Blk W S TIN #[.int .i64 (csV ws ts pre)] ∧ Blk W T4 TTS #[tv] ∧ (0 ≤ csV ws ts pre ∧ csV ws ts pre ≤ 600000000 * (pre.length : Int))
theorem csP_bd2 {ws : List Int} {ts : List Tt} (hv : Cv ws ts) (s : Nat) {way : List Int} (h : way.length ≤ 60) : 0 ≤ pW ws s * csW ts way ∧ pW ws s * csW ts way ≤ 600000000 := by
  have hpw := pW_bd hv s
  have hb1 := csW_bd (ts := ts) (l := way) (cost_bd hv)
  have hb2 : csW ts way ≤ 60000 := by omega
  exact ⟨Int.mul_nonneg hpw.1 hb1.1, Int.le_trans (Int.mul_le_mul hpw.2 hb2 hb1.1 (by omega)) (by decide)⟩
set_option maxHeartbeats 6400000 in
set_option maxRecDepth 100000 in
theorem rread1c_any (ws : List Int) (ts : List Tt) (w0 w1 : World) (A' : Option Addr) (m d : Nat) (hT : Ts w0 A' m d ts) (S T4 : Nat) (h0 : w0.heap.size ≤ S) (hg : S < w1.heap.size) (h4 : T4 ≠ S) :
    ∀ sv g B1 B2 b1, w1.heap.size ≤ B1 → B1 < g → g < B2 → B2 < b1 → Cv ws ts → ∀ (pre : List Vt) (s : Nat) (way : List Int) A n c W, s < 2 ^ ws.length → RdV ws ts w0 (.slice A' m d) sv (.func (.func 66) #[] #[.pointer (some ⟨S, 0, none⟩), .pointer (some ⟨T4, 0, none⟩)]) g B1 B2 b1 W → CoF ws ts (.slice A' m d) S T4 pre W → OwI b1 W (.slice A n c) way →
      (∀ k ∈ way, 0 ≤ k ∧ k < (ts.length : Int)) → pre.length ≤ 60 → n ≤ 60 →
      Calls Tryd.prog 82 #[.int .i64 (s : Int), .slice A n c, .pointer (some ⟨B1, 0, none⟩), .pointer (some ⟨B2, 0, none⟩)] W fun e W' => ∃ v, e = .returned v ∧ RdV ws ts w0 (.slice A' m d) sv (.func (.func 66) #[] #[.pointer (some ⟨S, 0, none⟩), .pointer (some ⟨T4, 0, none⟩)]) g B1 B2 b1 W' ∧ CoF ws ts (.slice A' m d) S T4 (pre ++ [((s, way) : Vt)]) W' ∧ KG b1 W W' := by
  intro sv g B1 B2 b1 hB1 hgB hgB2 hb1 hv pre s way A n c W hs hR hF how hwr hpl hn
  have hlen := how.ilv.len
  have k1 := hR.2.2.2.1.cells
  have k2 := hR.2.2.2.2.1.cells
  simp only [cellsAre, Nat.zero_add, Nat.reduceAdd, and_true] at k1 k2
  have hpb := csP_bd2 hv s (way := way) (by omega)
  have HF := Lib.hid hF
  have HC := Lib.hid (show CoW ws ts w0 (.slice A' m d) sv (.func (.func 66) #[] #[.pointer (some ⟨S, 0, none⟩), .pointer (some ⟨T4, 0, none⟩)]) g B1 B2 b1 S T4 (csV ws ts pre) W from ⟨hR, hF.1, hF.2.1⟩)
  have HO := Lib.hid how
  have HW := Lib.hid hwr
  have HT := Lib.hid hT
  have HS := Lib.hid hs
  have HSN := Lib.hid (csV_snoc (ws := ws) (ts := ts) pre (s, way))
  have hcb := hF.2.2
  clear hR hF how hwr hT hs
  go_enter Tryd.func82, Tryd.ntmps82
  go_wp2_with fail
  refine (rcost1_any ws ts hv w0 A' m d HT.out sv _ g B1 B2 b1 S T4 h0 (by omega) (by omega) (by omega) h4 (by omega) (csV ws ts pre) s way A n c W HS.out HC.out (by omega) HO.out HW.out hn).mono ?_
  rintro e w' ⟨v, rfl, hC, hK⟩
  have HZ := Lib.hid (And.intro hC hK)
  clear hC hK
  go_wp2
  go_end0
  refine ⟨_, rfl, HZ.out.1.1, ⟨?_, HZ.out.1.2.2, ?_⟩, HZ.out.2⟩
  · rw [HSN.out]; exact HZ.out.1.2.1
  · rw [HSN.out, List.length_append]
    simp only [List.length_cons, List.length_nil]
    omega
set_option maxHeartbeats 6400000 in
set_option maxRecDepth 100000 in
theorem rcost_any (A A' A2 : Option Addr) (n c m d p d2 : Nat) (ws : List Int) (ts plan : List Tt) (w : World) (h : Il w A n c ws) (h' : Ts w A' m d ts) (h2 : Ts w A2 p d2 plan) (ht : Tab w) (hp : p ≤ 60) :
    Calls Tryd.prog 41 #[.slice A n c, .slice A' m d, .slice A2 p d2] w (Ret (CstR ws ts n p plan) w) := by
  have hn := h.le
  have hcc := h.cap
  have hm := h'.le
  have hd := h'.cap
  have hp2 := h2.le
  have hd2 := h2.cap
  have HL := Lib.hid h.len
  have H := Lib.hid h
  have H' := Lib.hid h'
  have H2 := Lib.hid h2
  have HT := Lib.hid ht
  clear h h' h2 ht
  go_enter Tryd.func41, Tryd.ntmps41
  go_upto_region 2 with fail
  refine wp_world (fun W0 => Blk W0 w.heap.size TTS #[.slice A' m d] ∧ Blk W0 (w.heap.size + 1) TIN #[.int .i64 0] ∧ Ext w W0 ∧ w.heap.size + 1 < W0.heap.size) (by exact ⟨(Blk.new_ _ _ rfl).alloc _, Blk.new_ _ _ (by simp), bt (Ext.allocR _ _) (Ext.allocR _ _), by simp⟩) ?_
  rintro W0 ⟨b0, b1, x0, hsz⟩
  have HF0 := Lib.hid (show CoF ws ts (.slice A' m d) (w.heap.size + 1) w.heap.size [] W0 from ⟨b1, b0, by simp [csV]⟩)
  have X0 := Lib.hid x0
  have k0 := b0.cells
  have k1 := b1.cells
  simp only [cellsAre, Nat.zero_add, Nat.reduceAdd, and_true] at k0 k1
  have HC1 := Lib.hid (rread1c_any ws ts w W0 A' m d H'.out (w.heap.size + 1) w.heap.size (by omega) hsz (by omega))
  have HFE := Lib.hid (show ∀ pre W W', CoF ws ts (.slice A' m d) (w.heap.size + 1) w.heap.size pre W → Ext W W' → CoF ws ts (.slice A' m d) (w.heap.size + 1) w.heap.size pre W' from fun pre W W' hh hx => ⟨hh.1.below hx, hh.2.1.below hx, hh.2.2⟩)
  clear b0 b1 x0 hsz
  go_wp2_with fail
  refine (rread_any _ _ A A' A2 n c m d p d2 ws ts plan w W0 H.out H'.out H2.out HT.out X0.out hp _ HF0.out HFE HC1).mono ?_
  rintro e w1 ⟨hx1, hres⟩
  have X1 := Lib.hid hx1
  clear k0 k1 hx1
  rcases hres with ⟨hcv, rfl, hf⟩ | ⟨hcv, vis, hf, ⟨es, hes, rfl, hmap, hvl⟩ | ⟨hbad, rfl⟩⟩
  · have HE := Lib.hid (show CstR ws ts n p plan (.tuple #[.int .i64 0, .int .i64 1]) w1 from ⟨fun _ => rfl, fun h => absurd h hcv⟩)
    clear hf
    go_wp2
    go_returns
    exact ⟨_, rfl, HE.out, X1.out⟩
  · have hval : csV ws ts vis = csE ws ts es := by rw [← hmap, ← HL.out]; exact (csV_es hcv vis).symm
    have HE := Lib.hid (show CstR ws ts n p plan (.tuple #[.int .i64 (csV ws ts vis), .int .i64 0]) w1 from ⟨fun h => absurd hcv h, fun _ => ⟨fun es' he => by
      rw [hes] at he
      injection he with he
      injection he with he _
      rw [hval, he], fun hb => by rw [hes] at hb; cases hb⟩⟩)
    have k1 := hf.1.cells
    simp only [cellsAre, Nat.zero_add, Nat.reduceAdd, and_true] at k1
    clear hf hval hmap hes
    go_wp2
    go_returns
    exact ⟨_, rfl, HE.out, X1.out⟩
  · have HE := Lib.hid (show CstR ws ts n p plan (.tuple #[.int .i64 0, .int .i64 2]) w1 from ⟨fun h => absurd hcv h, fun _ => ⟨fun es' he => (by rw [he] at hbad; cases hbad), fun _ => rfl⟩⟩)
    clear hf hbad
    go_wp2
    go_returns
    exact ⟨_, rfl, HE.out, X1.out⟩
end Go.Proofs.Tb
