/- Contracts of key, batch, and the store's Broken and made. (With what follows it, in one text.) -/
import Derived.Test.YtfljnfdeboibhaaTsi
set_option linter.unusedVariables false
set_option linter.unusedSimpArgs false
/- Contracts of key, batch, and the store's Broken and made. -/
namespace Go.Proofs.Tb
open Go.Maps Go.RowKit Go.Lib
attribute [local go_sem] cell_set_same neqMapL

def keyB (s : Str) : Bool := decide (1 ≤ s.size) && decide (s.size ≤ 12)
def chgB (c : Cg) : Bool := keyB c.k && decide (c.v.size ≤ 24) && (!c.gone || decide (c.v.size = 0))
def batB (cs : List Cg) : Bool := cs.all chgB && decide (1 ≤ cs.length) && decide (cs.length ≤ 16)
theorem batB_ok {cs : List Cg} (h : batB cs = true) : OkC cs ∧ 1 ≤ cs.length ∧ cs.length ≤ 16 := by
  unfold batB at h
  rw [Bool.and_eq_true, Bool.and_eq_true] at h
  refine ⟨fun c hc => ?_, of_decide_eq_true h.1.2, of_decide_eq_true h.2⟩
  have h1 := List.all_eq_true.1 h.1.1 c hc
  unfold chgB keyB at h1
  simp at h1
  exact ⟨h1.1.1.2, h1.1.2⟩
set_option maxHeartbeats 1600000 in
set_option maxRecDepth 100000 in
theorem rkey_any (s : Str) (hs : s.size ≤ 1000000000) (w : World) : Calls Try.prog 76 #[.string s] w (Ret (fun v _ => v = .bool (keyB s)) w) := by
  obtain ⟨n, hn⟩ : ∃ n, s.size = n := ⟨_, rfl⟩
  have HN := Lib.hid hn
  have HK := Lib.hid (show keyB s = (decide (1 ≤ n) && decide (n ≤ 12)) by unfold keyB; rw [hn])
  rcases Nat.lt_or_ge n 1 with h1 | h1
  · have HE := Lib.hid (show keyB s = false by rw [HK.out, decide_eq_false (by omega)]; rfl)
    obtain rfl : n = 0 := by omega
    clear h1
    go_enter Try.func76, Try.ntmps76
    go_wp2
    go_returns
    exact ⟨_, rfl, by rw [HE.out]; rfl, Below.refl _ _⟩
  · have p1 : (1 : Int) ≤ (n : Int) := by omega
    have p1' : 1 ≤ n := h1
    rcases Nat.lt_or_ge 12 n with h2 | h2
    · have HE := Lib.hid (show keyB s = false by rw [HK.out, decide_eq_false (p := n ≤ 12) (by omega), Bool.and_false])
      have p2 : ¬ (n : Int) ≤ 12 := by omega
      have p2' : ¬ n ≤ 12 := by omega
      go_enter Try.func76, Try.ntmps76
      go_wp2
      go_returns
      exact ⟨_, rfl, by rw [HE.out]; rfl, Below.refl _ _⟩
    · have HE := Lib.hid (show keyB s = true by rw [HK.out, decide_eq_true (by omega), decide_eq_true (p := n ≤ 12) (by omega)]; rfl)
      have p2 : (n : Int) ≤ 12 := by omega
      have p2' : n ≤ 12 := by omega
      go_enter Try.func76, Try.ntmps76
      go_wp2
      go_returns
      exact ⟨_, rfl, by rw [HE.out]; rfl, Below.refl _ _⟩
set_option maxHeartbeats 3200000 in
set_option maxRecDepth 100000 in
theorem rbatch_any (A : Option Addr) (n c : Nat) (cs : List Cg) (w : World) (h : Rv w 3 A n c (ccs cs)) (hn : n ≤ 1000) (hcs : ∀ c ∈ cs, c.k.size ≤ 1000000000 ∧ c.v.size ≤ 1000000000) :
    Calls Try.prog 48 #[.slice A n c] w (Ret (fun v _ => v = .bool (batB cs)) w) := by
  have hl : cs.length = n := by have := h.len; rw [ccs_len] at this; omega
  have hle := h.le
  have hcp := h.cap
  have H := Lib.hid h
  have HL := Lib.hid hl
  have HC := Lib.hid hcs
  clear h hl hcs
  go_enter Try.func48, Try.ntmps48
  go_wp2_with fail
  go_loopw [7] (fun i wr => ∃ j : Nat, j ≤ n ∧ i = .int .i64 (j : Int) ∧ (cs.take j).all chgB = true ∧ Ext w wr) (fun i _ => n - (intOf i).toNat)
  case atStart => exact ⟨0, by omega, rfl, by simp, Ext.refl _⟩
  case round =>
    obtain ⟨j, hj, rfl, hall, hx⟩ := hrel
    have HALL := Lib.hid hall
    have HX := Lib.hid hx
    clear hall
    by_cases hjn : j < n
    · have pj : (j : Int) < (n : Int) := by omega
      have hjl : j < cs.length := by rw [HL.out]; exact hjn
      obtain ⟨b, o, rfl, hc⟩ := (H.out.below hx).at_ (by omega)
      obtain ⟨c1, c2, c3⟩ := ccs_at cs j hjl
      have k1 := hc _ _ c1
      have k2 := hc _ _ c2
      have k3 := hc _ _ c3
      rw [← Nat.add_assoc] at k2 k3
      have hsz := HC.out _ (List.getElem_mem hjl)
      have HN := Lib.hid (show (cs.take (j + 1)).all chgB = chgB cs[j] by rw [List.take_succ_eq_append_getElem hjl, List.all_append, HALL.out]; simp)
      have HM := Lib.hid (show chgB cs[j] = false → batB cs = false from fun hf => by
        unfold batB
        have : cs.all chgB = false := by
          rw [← Bool.not_eq_true, List.all_eq_true]
          intro ha
          rw [ha _ (List.getElem_mem hjl)] at hf
          cases hf
        rw [this]; rfl)
      obtain ⟨x, hx0⟩ : ∃ x, cs[j] = x := ⟨_, rfl⟩
      rw [hx0] at k1 k2 k3 hsz HN HM
      obtain ⟨k, v, gone⟩ := x
      clear hc c1 c2 c3 hx0 hjl hx
      have hks : k.size ≤ 1000000000 := hsz.1
      obtain ⟨q, hq⟩ : ∃ q, v.size = q := ⟨_, rfl⟩
      have hqs : q ≤ 1000000000 := by rw [← hq]; exact hsz.2
      have HQ := Lib.hid hq
      have HCH := Lib.hid (show chgB ⟨k, v, gone⟩ = (keyB k && decide (q ≤ 24) && (!gone || decide (q = 0))) by unfold chgB; rw [hq])
      obtain ⟨kb, hkb⟩ : ∃ kb, keyB k = kb := ⟨_, rfl⟩
      rw [hkb] at HCH
      have HKB := Lib.hid hkb
      clear hkb hsz
      cases kb with
      | false =>
        have HE := Lib.hid (HM.out (by rw [HCH.out]; rfl))
        go_wp2_with fail
        have xa : Ext w (wr.alloc (.cells #[.string k, .string v, .bool gone] TCG)) := bt HX.out (Ext.allocR _ _)
        refine (rkey_any k hks _).mono ?_
        rintro e w3 ⟨z3, rfl, rfl, b3⟩
        rw [HKB.out]
        have HXA := Lib.hid (bt xa b3)
        have kb := ((Blk.new_ TCG _ rfl).below b3).cells
        simp only [cellsAre, Nat.zero_add, Nat.reduceAdd, and_true] at kb
        clear xa b3
        go_wp2
        go_returns
        exact ⟨_, rfl, by rw [HE.out]; rfl, HXA.out⟩
      | true =>
        rcases Nat.lt_or_ge 24 q with h2 | h2
        · have HE := Lib.hid (HM.out (by rw [HCH.out, decide_eq_false (p := q ≤ 24) (by omega)]; rfl))
          have p2 : (24 : Int) < (q : Int) := by omega
          go_wp2_with fail
          have xa : Ext w (wr.alloc (.cells #[.string k, .string v, .bool gone] TCG)) := bt HX.out (Ext.allocR _ _)
          refine (rkey_any k hks _).mono ?_
          rintro e w3 ⟨z3, rfl, rfl, b3⟩
          rw [HKB.out]
          have HXA := Lib.hid (bt xa b3)
          have kb := ((Blk.new_ TCG _ rfl).below b3).cells
          simp only [cellsAre, Nat.zero_add, Nat.reduceAdd, and_true] at kb
          clear xa b3
          go_wp2
          go_returns
          exact ⟨_, rfl, by rw [HE.out]; rfl, HXA.out⟩
        · have p2 : ¬ (24 : Int) < (q : Int) := by omega
          have p2' : ¬ 24 < q := by omega
          cases gone with
          | false =>
            have HE := Lib.hid (show (cs.take (j + 1)).all chgB = true by rw [HN.out, HCH.out, decide_eq_true (p := q ≤ 24) (by omega)]; rfl)
            go_wp2_with fail
            have xa : Ext w (wr.alloc (.cells #[.string k, .string v, .bool false] TCG)) := bt HX.out (Ext.allocR _ _)
            refine (rkey_any k hks _).mono ?_
            rintro e w3 ⟨z3, rfl, rfl, b3⟩
            rw [HKB.out]
            have HXA := Lib.hid (bt xa b3)
            have kb := ((Blk.new_ TCG _ rfl).below b3).cells
            simp only [cellsAre, Nat.zero_add, Nat.reduceAdd, and_true] at kb
            clear xa b3
            go_wp2
            go_roundw
            case rel => exact ⟨j + 1, by omega, by go_num, HE.out, HXA.out⟩
            case measure => simp [intOf]; omega
          | true =>
            by_cases hq0 : q = 0
            · subst hq0
              have hv0 : v.toList = [] := by
                have : v.toList.length = 0 := (by rw [ByteArray.toList_eq]; exact hq)
                exact List.eq_nil_of_length_eq_zero this
              have hv1 : v.toList.isEmpty = true := by rw [hv0]; rfl
              have HE := Lib.hid (show (cs.take (j + 1)).all chgB = true by rw [HN.out, HCH.out]; rfl)
              go_wp2_with fail
              have xa : Ext w (wr.alloc (.cells #[.string k, .string v, .bool true] TCG)) := bt HX.out (Ext.allocR _ _)
              refine (rkey_any k hks _).mono ?_
              rintro e w3 ⟨z3, rfl, rfl, b3⟩
              rw [HKB.out]
              have HXA := Lib.hid (bt xa b3)
              have kb := ((Blk.new_ TCG _ rfl).below b3).cells
              simp only [cellsAre, Nat.zero_add, Nat.reduceAdd, and_true] at kb
              clear xa b3
              go_wp2
              go_roundw
              case rel => exact ⟨j + 1, by omega, by go_num, HE.out, HXA.out⟩
              case measure => simp [intOf]; omega
            · have hvl : v.toList.length = q := by rw [ByteArray.toList_eq]; exact hq
              have hv0 : ¬ v.toList = [] := fun e => hq0 (by rw [← hvl, e]; rfl)
              have hv1 : v.toList.isEmpty = false := by rw [List.isEmpty_eq_false_iff]; exact hv0
              have HE := Lib.hid (HM.out (by rw [HCH.out, decide_eq_false hq0, decide_eq_true (p := q ≤ 24) (by omega)]; rfl))
              clear hq0 hvl
              go_wp2_with fail
              have xa : Ext w (wr.alloc (.cells #[.string k, .string v, .bool true] TCG)) := bt HX.out (Ext.allocR _ _)
              refine (rkey_any k hks _).mono ?_
              rintro e w3 ⟨z3, rfl, rfl, b3⟩
              rw [HKB.out]
              have HXA := Lib.hid (bt xa b3)
              have kb := ((Blk.new_ TCG _ rfl).below b3).cells
              simp only [cellsAre, Nat.zero_add, Nat.reduceAdd, and_true] at kb
              clear xa b3
              go_wp2
              go_returns
              exact ⟨_, rfl, by rw [HE.out]; rfl, HXA.out⟩
    · obtain rfl : j = n := by omega
      have HE := Lib.hid (show batB cs = (decide (1 ≤ j) && decide (j ≤ 16)) by
        have h := HALL.out
        rw [List.take_of_length_le (by rw [HL.out]; exact Nat.le_refl _)] at h
        unfold batB
        rw [h, HL.out]; rfl)
      clear hx
      rcases Nat.lt_or_ge j 1 with h1 | h1
      · obtain rfl : j = 0 := by omega
        go_wp2
        go_returns
        exact ⟨_, rfl, by rw [HE.out]; rfl, HX.out⟩
      · have p1 : (1 : Int) ≤ (j : Int) := by omega
        have p1' : 1 ≤ j := h1
        rcases Nat.lt_or_ge 16 j with h2 | h2
        · have p2 : ¬ (j : Int) ≤ 16 := by omega
          have p2' : ¬ j ≤ 16 := by omega
          go_wp2
          go_returns
          exact ⟨_, rfl, by rw [HE.out, decide_eq_true p1', decide_eq_false p2']; rfl, HX.out⟩
        · have p2 : (j : Int) ≤ 16 := by omega
          have p2' : j ≤ 16 := by omega
          go_wp2
          go_returns
          exact ⟨_, rfl, by rw [HE.out, decide_eq_true p1', decide_eq_true p2']; rfl, HX.out⟩
set_option maxHeartbeats 1600000 in
set_option maxRecDepth 100000 in
theorem rbroken_any (s d : Nat) (keep : Int) (v : Value) (br : Bool) (w : World) (h : Blk w s TSE #[.pointer (some ⟨d, 0, none⟩), .int .i64 keep, v, .bool br]) :
    Calls Try.prog 15 #[.pointer (some ⟨s, 0, none⟩)] w (Ret (fun z _ => z = .bool br) w) := by
  have kd := h.cells
  simp only [cellsAre, Nat.zero_add, Nat.reduceAdd, and_true] at kd
  clear h
  go_enter Try.func15, Try.ntmps15
  go_wp2
  go_returns
  exact ⟨_, rfl, rfl, Below.refl _ _⟩
set_option maxHeartbeats 1600000 in
set_option maxRecDepth 100000 in
theorem rsmade_any (s d : Nat) (keep : Int) (v : Value) (br : Bool) (w : World) (h : Blk w s TSE #[.pointer (some ⟨d, 0, none⟩), .int .i64 keep, v, .bool br]) :
    Calls Try.prog 69 #[.pointer (some ⟨s, 0, none⟩)] w (Ret (fun z _ => z = .bool true) w) := by
  have kd := h.cells
  simp only [cellsAre, Nat.zero_add, Nat.reduceAdd, and_true] at kd
  clear h
  go_enter Try.func69, Try.ntmps69
  go_wp2
  go_returns
  exact ⟨_, rfl, rfl, Below.refl _ _⟩
end Go.Proofs.Tb
/- Contract of (*Store).Commit. -/
namespace Go.Proofs.Tb
open Go.Maps Go.RowKit Go.Lib
attribute [local go_sem] cell_set_same neqMapL

/-- A store in memory, on its disk. -/
structure SI (F : Nat → Prop) (w : World) (s d keep : Nat) (vs : List (Nat × MT)) (B : Nat → Nat) (br : Bool) (bl : List (List (List Nat))) (down : Bool) (left : Nat) : Prop where
  se : ∃ A m c, Blk w s TSE #[.pointer (some ⟨d, 0, none⟩), .int .i64 (keep : Int), .slice A m c, .bool br] ∧ OwS 0 w (.slice A m c) vs
  dk : DW F w d bl down left
  fs : F s
  tr : ∀ v ∈ vs, TrW w B (Pos B) v.2
  bz : ∀ a, w.heap.size ≤ a → B a = 0
  bm : ∀ a, B a ≤ 4096
theorem SI.chg {F : Nat → Prop} {X : Nat → Obj → Prop} {w w' : World} {s d keep : Nat} {vs : List (Nat × MT)} {B : Nat → Nat} {br : Bool} {bl : List (List (List Nat))} {down : Bool} {left : Nat} (h : SI F w s d keep vs B br bl down left) (hc : Chg X w w') (h1 : ∀ b o, F b → MutK o → ¬ X b o) (h2 : ∀ b cs, ¬ X b (.cells cs TU8 (0, 0))) (h3 : ∀ b cs, ¬ X b (.cells cs TNO (0, 0))) (h4 : ∀ b cs, ¬ X b (.cells cs TVE (0, 0))) : SI F w' s d keep vs B br bl down left := by
  obtain ⟨A, m, c, g1, g2⟩ := h.se
  exact ⟨⟨A, m, c, hc.blk g1 (h1 s _ h.fs (Or.inr (Or.inr rfl))), hc.own g2 fun b cs _ => h4 b cs⟩, h.dk.chg hc h1 h2, h.fs, fun v hv => (h.tr v hv).chg hc h3, fun a ha => h.bz a (Nat.le_trans hc.size ha), h.bm⟩
theorem SI.ext {F : Nat → Prop} {w w' : World} {s d keep : Nat} {vs : List (Nat × MT)} {B : Nat → Nat} {br : Bool} {bl : List (List (List Nat))} {down : Bool} {left : Nat} (h : SI F w s d keep vs B br bl down left) (hx : Ext w w') : SI F w' s d keep vs B br bl down left :=
  h.chg (X := fun _ _ => False) (Chg.ext hx) (fun _ _ _ _ h => h) (fun _ _ h => h) (fun _ _ h => h) fun _ _ h => h
/-- A disk without some block that is none of its own. -/
theorem DW.not {F : Nat → Prop} {w : World} {d : Nat} {bl : List (List (List Nat))} {down : Bool} {left : Nat} (h : DW F w d bl down left) {s : Nat} {cs : Array Value} (hs : Blk w s TSE cs) : DW (fun b => F b ∧ b ≠ s) w d bl down left := by
  obtain ⟨g, h1, h2, h3⟩ := h
  refine ⟨g, h1, h2, fun b hb => ⟨h3 b hb, fun e => ?_⟩⟩
  subst e
  exact h1.blk_ne hs (by decide) (by decide) (by rw [List.length_map]; exact hb)
theorem DW.imp {F G : Nat → Prop} {w : World} {d : Nat} {bl : List (List (List Nat))} {down : Bool} {left : Nat} (h : DW F w d bl down left) (hFG : ∀ b, F b → G b) : DW G w d bl down left := by
  obtain ⟨g, h1, h2, h3⟩ := h
  exact ⟨g, h1, h2, fun b hb => hFG b (h3 b hb)⟩
theorem MF.ve {F : Nat → Prop} (b : Nat) (cs : Array Value) : ¬ MF F b (.cells cs TVE (0, 0)) := fun hx => by
  have : TVE = TDK ∨ TVE = TBY ∨ TVE = TSE := hx.2
  revert this
  decide
theorem MF.ti {F : Nat → Prop} (b : Nat) (cs : Array Value) : ¬ MF F b (.cells cs TIN (0, 0)) := fun hx => by
  have : TIN = TDK ∨ TIN = TBY ∨ TIN = TSE := hx.2
  revert this
  decide
/-- What a Commit makes: the new tree's nodes, where they go, and what the acts are. -/
structure Cmt where
  gs : List Nat
  fs : List Nat
  B : Nat → Nat
  ps : List (Nat × List Nat)
  vs : List (Nat × MT)
  r1 : Dst
  r2 : Dst
def cmtOf (keep num : Nat) (vs : List (Nat × MT)) (B : Nat → Nat) (bl : List (List (List Nat))) (left : Nat) (t : MT) : Cmt :=
  let fs := frF B vs (upB (bl.length - 2))
  let B' := asg B (t.fr B) fs
  let ps := (t.frs B).map (ptB B')
  let vs' := ((num + 1, t) :: vs).take (keep + 1)
  let r1 := wrA ps bl left
  { gs := t.fr B, fs := fs, B := B', ps := ps, vs := vs', r1 := r1, r2 := wrA [((num + 1) % 2, blkB (rootB keep (num + 1) (rtB B' vs')))] r1.bl r1.lf }
def ansV (n e : Int) : Ending := .returned (.tuple #[.int .i64 n, .int .i64 e])
/-- What a Commit of a batch answers. -/
inductive CmtA (F : Nat → Prop) (w w' : World) (s d keep num : Nat) (vs : List (Nat × MT)) (B : Nat → Nat) (bl : List (List (List Nat))) (left : Nat) (t : MT) (e : Ending) : Prop
  | full : (cmtOf keep num vs B bl left t).fs.length < (cmtOf keep num vs B bl left t).gs.length → e = ansV 0 8 → Ext w w' → CmtA F w w' s d keep num vs B bl left t e
  | down1 : (cmtOf keep num vs B bl left t).gs.length ≤ (cmtOf keep num vs B bl left t).fs.length → (cmtOf keep num vs B bl left t).r1.dn = true → e = ansV 0 9 →
      SI F w' s d keep vs B true (cmtOf keep num vs B bl left t).r1.bl true (cmtOf keep num vs B bl left t).r1.lf → Chg (MF F) w w' → CmtA F w w' s d keep num vs B bl left t e
  | down2 : (cmtOf keep num vs B bl left t).gs.length ≤ (cmtOf keep num vs B bl left t).fs.length → (cmtOf keep num vs B bl left t).r1.dn = false → (cmtOf keep num vs B bl left t).r2.dn = true → e = ansV 0 9 →
      SI F w' s d keep vs B true (cmtOf keep num vs B bl left t).r2.bl true (cmtOf keep num vs B bl left t).r2.lf → Chg (MF F) w w' → CmtA F w w' s d keep num vs B bl left t e
  | ok : (cmtOf keep num vs B bl left t).gs.length ≤ (cmtOf keep num vs B bl left t).fs.length → (cmtOf keep num vs B bl left t).r1.dn = false → (cmtOf keep num vs B bl left t).r2.dn = false → e = ansV ((num + 1 : Nat) : Int) 0 →
      SI F w' s d keep (cmtOf keep num vs B bl left t).vs (cmtOf keep num vs B bl left t).B false (cmtOf keep num vs B bl left t).r2.bl false (cmtOf keep num vs B bl left t).r2.lf → Chg (MF F) w w' → CmtA F w w' s d keep num vs B bl left t e
/-- .. for some new tree. -/
def CmtR (F : Nat → Prop) (w w' : World) (s d keep num : Nat) (vs : List (Nat × MT)) (B : Nat → Nat) (bl : List (List (List Nat))) (left : Nat) (T : Tr) (e : Ending) : Prop :=
  ∃ t : MT, t.er = T ∧ Mix B (SubV vs) t ∧ (t.fr B).Pairwise (· ≠ ·) ∧ CmtA F w w' s d keep num vs B bl left t e
set_option maxHeartbeats 1600000 in
set_option maxRecDepth 100000 in
theorem rcommit_broken (s d : Nat) (keep : Int) (v : Value) (w : World) (h : Blk w s TSE #[.pointer (some ⟨d, 0, none⟩), .int .i64 keep, v, .bool true]) (A : Option Addr) (n c : Nat) :
    Calls Try.prog 13 #[.pointer (some ⟨s, 0, none⟩), .slice A n c] w fun e w' => e = ansV 0 7 ∧ Ext w w' := by
  have H := Lib.hid h
  clear h
  go_enter Try.func13, Try.ntmps13
  go_wp2_with fail
  refine (rbroken_any s d keep v true w H.out).mono ?_
  rintro e w1 ⟨z1, rfl, rfl, b1⟩
  have X1 := Lib.hid (show Ext w w1 from b1)
  clear b1
  go_wp2
  go_returns
  exact ⟨rfl, X1.out⟩
set_option maxHeartbeats 1600000 in
set_option maxRecDepth 100000 in
theorem rcommit_bad (s d : Nat) (keep : Int) (v : Value) (w : World) (h : Blk w s TSE #[.pointer (some ⟨d, 0, none⟩), .int .i64 keep, v, .bool false]) (A : Option Addr) (n c : Nat) (cs : List Cg) (hr : Rv w 3 A n c (ccs cs)) (hn : n ≤ 1000) (hcs : ∀ c ∈ cs, c.k.size ≤ 1000000000 ∧ c.v.size ≤ 1000000000) (hb : batB cs = false) :
    Calls Try.prog 13 #[.pointer (some ⟨s, 0, none⟩), .slice A n c] w fun e w' => e = ansV 0 1 ∧ Ext w w' := by
  have H := Lib.hid h
  have HR := Lib.hid hr
  have HC := Lib.hid hcs
  have HB := Lib.hid hb
  have hle := hr.le
  have hcp := hr.cap
  clear h hr hcs hb
  go_enter Try.func13, Try.ntmps13
  go_wp2_with fail
  refine (rbroken_any s d keep v false w H.out).mono ?_
  rintro e w1 ⟨z1, rfl, rfl, b1⟩
  have X1 := Lib.hid (show Ext w w1 from b1)
  clear b1
  go_wp2_with fail
  refine (rbatch_any A n c cs w1 (HR.out.below X1.out) hn HC.out).mono ?_
  rintro e w2 ⟨z2, rfl, rfl, b2⟩
  rw [HB.out]
  have X2 := Lib.hid (bt X1.out b2)
  clear b2
  go_wp2
  go_returns
  exact ⟨rfl, X2.out⟩
end Go.Proofs.Tb
/- Contract of (*Store).Commit at a batch. -/
namespace Go.Proofs.Tb
open Go.Maps Go.RowKit Go.Lib
attribute [local go_sem] cell_set_same neqMapL

theorem TrW.congr {w : World} {B B' : Nat → Nat} (hB : ∀ a, 0 < B a → B' a = B a) : ∀ {t : MT}, TrW w B (Pos B) t → TrW w B' (Pos B') t
  | .nil, _ => trivial
  | .node g _ _ _ _, ⟨h1, h2, h3, h4⟩ => by
    have e : B' g = B g := hB g h2
    exact ⟨by rw [e]; exact h1, by unfold Pos; rw [e]; exact h2, h3.congr hB, h4.congr hB⟩
theorem TrW.fr_new {w w1 : World} {B : Nat → Nat} {P : MT → Prop} : ∀ {t : MT}, TrW w1 B (Qn w B P) t → ∀ g ∈ t.fr B, w.heap.size ≤ g ∧ g < w1.heap.size
  | .nil, _, g, h => by cases h
  | .node g' k v l r, h, g, hg => by
    simp only [MT.fr] at hg
    split at hg
    · cases hg
    · rename_i hz
      rcases List.mem_append.1 hg with hg | hg
      · rcases List.mem_append.1 hg with hg | hg
        · exact h.2.2.1.fr_new g hg
        · exact h.2.2.2.fr_new g hg
      · rw [List.mem_singleton.1 hg]
        refine ⟨?_, h.1.lt⟩
        rcases h.2.1 with h1 | ⟨u, hu, hut, _⟩
        · exact h1
        · cases u with
          | nil => cases hu
          | node gu ku vu lu ru =>
            simp only [MT.ad, Option.some.injEq, Addr.mk.injEq, and_true] at hu
            subst hu
            exact absurd hut.2.1 hz
theorem Chg.wr {F G : Nat → Prop} {w w1 w2 : World} {gs : List Nat} (hx : Ext w w1) (hc : Chg (XW G gs) w1 w2) (hG : ∀ b, G b → F b) (hg : ∀ g ∈ gs, w.heap.size ≤ g) : Chg (MF F) w w2 :=
  ⟨hc.os.trans hx.os, hc.tape.trans hx.tape, hc.output.trans hx.output, Nat.le_trans (Ext.size hx) hc.size, fun b o hb hX => hc.same b o ((hx.block b (obj_lt hb)).trans hb) fun h => by
    rcases h with h | ⟨h, _⟩
    · exact hX ⟨hG b h.1, h.2⟩
    · have := hg b h
      have := obj_lt hb
      omega⟩
/-- Where Commit's loop stands. -/
structure CmL (w wr : World) (B : Nat → Nat) (P : MT → Prop) (T : Tr) (m : Nat) (t : MT) : Prop where
  tr : TrW wr B (Qn w B P) t
  er : t.er = T
  ex : Ext w wr
  sz : t.er.size ≤ m
theorem size_aft (cs : List Cg) {t : Tr} (h : Srtd t.prs) (j : Nat) : (aftT t (cs.take j)).size ≤ t.size + j := by
  have h1 := aft_len (cs.take j) t.prs
  rw [← Tr.size_prs, ← Tr.size_prs, aftT_prs _ h]
  have h2 : (cs.take j).length ≤ j := by rw [List.length_take]; omega
  omega
/-- What is known behind write. -/
structure CmW (F : Nat → Prop) (w W : World) (s d keep num : Nat) (vs : List (Nat × MT)) (B : Nat → Nat) (bl : List (List (List Nat))) (t : MT) (A0 : Option Addr) (m c0 : Nat) (A1 : Option Addr) (q c1 : Nat) (bl' : List (List (List Nat))) (dn : Bool) (lf : Nat) : Prop where
  se : Blk W s TSE #[.pointer (some ⟨d, 0, none⟩), .int .i64 (keep : Int), .slice A0 m c0, .bool false]
  ol : OwS 0 W (.slice A0 m c0) vs
  nw : OwS 0 W (.slice A1 q c1) (((num + 1, t) :: vs).take (keep + 1))
  dk : DW (fun b => F b ∧ b ≠ s) W d bl' dn lf
  ch : Chg (MF F) w W
  gl : ∀ g ∈ t.fr B, g < W.heap.size
theorem CmW.down {F : Nat → Prop} {w W : World} {s d keep num : Nat} {vs : List (Nat × MT)} {B : Nat → Nat} {bl : List (List (List Nat))} {t : MT} {A0 : Option Addr} {m c0 : Nat} {A1 : Option Addr} {q c1 : Nat} {bl' : List (List (List Nat))} {lf left : Nat}
    (h : CmW F w W s d keep num vs B bl t A0 m c0 A1 q c1 bl' true lf) (hi : SI F w s d keep vs B false bl false left) : SI F (W.setCell ⟨s, 3, none⟩ (.bool true)) s d keep vs B true bl' true lf ∧ Chg (MF F) w (W.setCell ⟨s, 3, none⟩ (.bool true)) := by
  have hc : Chg (fun b o => b = s ∧ ∃ cs, o = .cells cs TSE (0, 0)) W (W.setCell ⟨s, 3, none⟩ (.bool true)) := Chg.setB h.se ⟨rfl, _, rfl⟩ _ _
  have hc2 : Chg (MF F) W (W.setCell ⟨s, 3, none⟩ (.bool true)) := Chg.setB h.se ⟨hi.fs, Or.inr (Or.inr rfl)⟩ _ _
  refine ⟨⟨⟨A0, m, c0, h.se.set_ 3 _, hc.own h.ol fun b cs _ hX => by
    obtain ⟨_, cs', hX⟩ := hX
    injection hX with _ hX
    revert hX
    decide⟩, (h.dk.chg hc (fun b o hb _ hX => hb.2 hX.1) fun b cs hX => by
    obtain ⟨_, cs', hX⟩ := hX
    injection hX with _ hX
    revert hX
    decide).imp fun b hb => hb.1, hi.fs, fun v hv => (hi.tr v hv).chg (h.ch.trans hc2) MF.no, fun a ha => hi.bz a (Nat.le_trans (h.ch.trans hc2).size ha), hi.bm⟩, h.ch.trans hc2⟩
theorem CmW.done {F : Nat → Prop} {w w1 W1 W : World} {s d keep num : Nat} {vs : List (Nat × MT)} {B : Nat → Nat} {bl : List (List (List Nat))} {t : MT} {A0 : Option Addr} {m c0 : Nat} {A1 : Option Addr} {q c1 : Nat} {bl' : List (List (List Nat))} {lf left : Nat} {fs : List Nat}
    (h : CmW F w W s d keep num vs B bl t A0 m c0 A1 q c1 bl' false lf) (hi : SI F w s d keep vs B false bl false left) (hx : Ext w w1) (ht : TrW w1 B (Qn w B (SubV vs)) t) (ht' : TrW W1 (asg B (t.fr B) fs) (Qn w B (SubV vs)) t) (hcW : Chg (MF F) W1 W)
    (hnd : (t.fr B).Pairwise (· ≠ ·)) (hfs : ∀ f ∈ fs, 2 ≤ f ∧ f ≤ 4096) (hl : (t.fr B).length ≤ fs.length) :
    SI F (W.setCell ⟨s, 2, none⟩ (.slice A1 q c1)) s d keep (((num + 1, t) :: vs).take (keep + 1)) (asg B (t.fr B) fs) false bl' false lf ∧ Chg (MF F) w (W.setCell ⟨s, 2, none⟩ (.slice A1 q c1)) := by
  have hc : Chg (fun b o => b = s ∧ ∃ cs, o = .cells cs TSE (0, 0)) W (W.setCell ⟨s, 2, none⟩ (.slice A1 q c1)) := Chg.setB h.se ⟨rfl, _, rfl⟩ _ _
  have hc2 : Chg (MF F) W (W.setCell ⟨s, 2, none⟩ (.slice A1 q c1)) := Chg.setB h.se ⟨hi.fs, Or.inr (Or.inr rfl)⟩ _ _
  have hB : ∀ a, 0 < B a → asg B (t.fr B) fs a = B a := fun a ha => asg_not fun hm => by have := MT.fr_zero B t a hm; omega
  have hpos : ∀ g ∈ t.fr B, 0 < asg B (t.fr B) fs g := fun g hg => by
    obtain ⟨j, hj, rfl⟩ := List.getElem_of_mem hg
    rw [asg_at j hj (by omega) hnd]
    have := hfs _ (List.getElem_mem (show j < fs.length by omega))
    omega
  refine ⟨⟨⟨A1, q, c1, h.se.set_ 2 _, hc.own h.nw fun b cs _ hX => by
    obtain ⟨_, cs', hX⟩ := hX
    injection hX with _ hX
    revert hX
    decide⟩, (h.dk.chg hc (fun b o hb _ hX => hb.2 hX.1) fun b cs hX => by
    obtain ⟨_, cs', hX⟩ := hX
    injection hX with _ hX
    revert hX
    decide).imp fun b hb => hb.1, hi.fs, fun v hv => ?_, fun a ha => ?_, asg_le hi.bm fun f hf => (hfs f hf).2⟩, h.ch.trans hc2⟩
  · rcases List.mem_cons.1 (List.mem_of_mem_take hv) with rfl | hv
    · exact (TrW.stands hx hi.bz hB ht ht' hpos).chg (hcW.trans hc2) MF.no
    · exact ((hi.tr v hv).congr hB).chg (h.ch.trans hc2) MF.no
  · have h1 : w.heap.size ≤ a := Nat.le_trans (h.ch.trans hc2).size ha
    rw [asg_not fun hm => by
      have := h.gl a hm
      have := hc2.size
      omega]
    exact hi.bz a h1
end Go.Proofs.Tb
/- The walk of (*Store).Commit at a batch. -/
namespace Go.Proofs.Tb
open Go.Maps Go.RowKit Go.Lib
attribute [local go_sem] cell_set_same neqMapL

theorem XW.ve {F : Nat → Prop} {gs : List Nat} (b : Nat) (cs : Array Value) : ¬ XW F gs b (.cells cs TVE (0, 0)) := fun h => by
  rcases h.ty with h | h | h | h <;> exact absurd h (by decide)
theorem vc_take : ∀ (l : List (Nat × MT)) (q : Nat), (vc l).take (q * 2) = vc (l.take q)
  | l, 0 => by simp [vc]
  | [], q + 1 => by simp [vc]
  | v :: l, q + 1 => by
    have e : vc (v :: l) = .int .i64 (v.1 : Int) :: .pointer v.2.ad :: vc l := rfl
    rw [e, show (q + 1) * 2 = q * 2 + 1 + 1 by omega, List.take_succ_cons, List.take_succ_cons, vc_take l q]
    rfl
set_option maxHeartbeats 12800000 in
set_option maxRecDepth 100000 in
theorem rcommit_any {F : Nat → Prop} {s d keep num : Nat} {vs : List (Nat × MT)} {B : Nat → Nat} {bl : List (List (List Nat))} {left : Nat} {t0 : MT} (w : World)
    (h : SI F w s d keep vs B false bl false left) (hF : ∀ b, w.heap.size ≤ b → F b) (h0 : vs[0]? = some (num, t0)) (hnl : num ≤ 100000000) (hk : keep ≤ 18) (hvl : vs.length ≤ keep + 1)
    (hsr : Srtd t0.er.prs) (hok : OkP t0.er.prs) (hsz : t0.er.size ≤ 10000) (h2 : 2 ≤ bl.length) (hfew : ∀ k, (bl.getD k []).length ≤ 1)
    (A : Option Addr) (n c : Nat) (cs : List Cg) (hr : Rv w 3 A n c (ccs cs)) (hb : batB cs = true) :
    Calls Try.prog 13 #[.pointer (some ⟨s, 0, none⟩), .slice A n c] w fun e w' => CmtR F w w' s d keep num vs B bl left (aftT t0.er cs) e := by
  obtain ⟨hokc, hb1, hb2⟩ := batB_ok hb
  have hcl : cs.length = n := by have := hr.len; rw [ccs_len] at this; omega
  obtain ⟨A0, m, c0, hs, hrow⟩ := h.se
  have hvm : vs.length = m := by
    obtain ⟨A', c', e, _⟩ := own_rv hrow
    injection e with _ e _
    exact e.symm
  have hvp : 0 < vs.length := by
    cases vs with
    | nil => cases h0
    | cons v tl => simp
  obtain ⟨gk, hA0, hgk⟩ : ∃ g, A0 = some ⟨g, 0, none⟩ ∧ ∀ j u, (vc vs)[j]? = some u → w.cell? ⟨g, j, none⟩ = some u := by
    rcases hrow.2 with ⟨e, hz⟩ | ⟨g, cap, cur, e, _, hh, _, _, _, ht⟩
    · omega
    · injection e with e1 _ _
      refine ⟨g, e1, fun j u hj => ?_⟩
      rw [cell_of_row w g j cur TVE (0, 0) hh]
      rw [← ht, List.getElem?_take] at hj
      split at hj
      · simpa using hj
      · cases hj
  subst hA0
  have hv0 : vs[0] = (num, t0) := by
    have := List.getElem?_eq_getElem hvp
    rw [h0] at this
    injection this with this
    exact this.symm
  have k0 : w.cell? ⟨gk, 0, none⟩ = some (.int .i64 (num : Int)) ∧ w.cell? ⟨gk, 1, none⟩ = some (.pointer t0.ad) := by
    obtain ⟨q1, q2⟩ := vc_at vs 0 hvp
    rw [hv0] at q1 q2
    exact ⟨hgk _ _ q1, hgk _ _ q2⟩
  have K0 := Lib.hid k0
  have h0m : (num, t0) ∈ vs := by rw [← hv0]; exact List.getElem_mem hvp
  have HI := Lib.hid h
  have HS := Lib.hid hs
  have HRW := Lib.hid hrow
  have HF := Lib.hid hF
  have HV0 := Lib.hid h0
  have HSR := Lib.hid hsr
  have HOK := Lib.hid hok
  have H2 := Lib.hid h2
  have HFW := Lib.hid hfew
  have HR := Lib.hid hr
  have HB := Lib.hid hb
  have HOC := Lib.hid hokc
  have HVM := Lib.hid hvm
  have HCL := Lib.hid hcl
  have HT0 := Lib.hid (show CmL w w B (SubV vs) (aftT t0.er (cs.take 0)) (10000 + 0) t0 from ⟨(h.tr _ h0m).qn (SubV.child vs) ⟨_, h0m, MT.subs_self _⟩, rfl, Ext.refl _, by omega⟩)
  have hrle := hr.le
  have hrcp := hr.cap
  have hm0 : 0 < m := by omega
  have hm19 : m ≤ 19 := by omega
  have hmle := (own_rvv hrow).le
  have hmcp := (own_rvv hrow).cap
  have hnn : n ≤ 16 := by omega
  clear h hF h0 hsr hok h2 hfew hr hb hokc hs hrow hvm hcl hvp hgk hv0 k0 h0m
  go_enter Try.func13, Try.ntmps13
  go_wp2_with fail
  refine (rbroken_any s d _ _ false w HS.out).mono ?_
  rintro e w1 ⟨z1, rfl, rfl, b1⟩
  have X1 := Lib.hid (show Ext w w1 from b1)
  clear b1
  go_wp2_with fail
  refine (rbatch_any A n c cs w1 (HR.out.below X1.out) (by omega) (fun c hc => by have := HOC.out c hc; omega)).mono ?_
  rintro e w2 ⟨z2, rfl, rfl, b2⟩
  rw [HB.out]
  have X2 := Lib.hid (show Ext w w2 from bt X1.out b2)
  have ks := (HS.out.below (bt X1.out b2)).cells
  have kr := ext_cell (bt X1.out b2) K0.out.2
  simp only [cellsAre, Nat.zero_add, Nat.reduceAdd, and_true] at ks
  have HT2 := Lib.hid (show CmL w w2 B (SubV vs) (aftT t0.er (cs.take 0)) (10000 + 0) t0 from ⟨HT0.out.tr.below (bt X1.out b2), HT0.out.er, bt X1.out b2, HT0.out.sz⟩)
  clear b2 X1 HT0
  go_wp2_with fail
  go_loopw [6, 29] (fun r i wr => ∃ (j : Nat) (t : MT), j ≤ n ∧ i = .int .i64 (j : Int) ∧ r = .pointer t.ad ∧ CmL w wr B (SubV vs) (aftT t0.er (cs.take j)) (10000 + j) t) (fun _ i _ => n - (intOf i).toNat)
  case atStart => exact ⟨0, t0, by omega, rfl, rfl, HT2.out⟩
  case round =>
    clear HT2 ks kr
    obtain ⟨j, t, hj, rfl, rfl, hw⟩ := hrel
    have HW := Lib.hid hw
    by_cases hjn : j < n
    · have pj : (j : Int) < (n : Int) := by omega
      have hjl : j < cs.length := by rw [HCL.out]; exact hjn
      obtain ⟨b, o, rfl, hc⟩ := (HR.out.below hw.ex).at_ (by omega)
      obtain ⟨c1, c2, c3⟩ := ccs_at cs j hjl
      have k1 := hc _ _ c1
      have k2 := hc _ _ c2
      have k3 := hc _ _ c3
      rw [← Nat.add_assoc] at k2 k3
      have hE := aftT_take_succ t0.er cs hjl
      have hS := size_aft cs HSR.out (j + 1)
      obtain ⟨x, hx0⟩ : ∃ x, cs[j] = x := ⟨_, rfl⟩
      rw [hx0] at k1 k2 k3 hE
      obtain ⟨k, v, gone⟩ := x
      have HE := Lib.hid hE
      have HSZ := Lib.hid hS
      have hts := hw.sz
      clear hc c1 c2 c3 hx0 hjl hw hE hS
      cases gone with
      | true =>
        go_wp2_with fail
        have xa : Ext wr (wr.alloc (.cells #[.string k, .string v, .bool true] TCG)) := Ext.allocR _ _
        refine (rwithout_any B (Qn w B (SubV vs)) t k _ (HW.out.tr.below xa) ((frs_qn w (SubV vs) HI.out.bz).ext (bt HW.out.ex xa)) (by omega)).mono ?_
        rintro e w3 ⟨z3, rfl, ⟨t1, rfl, ht1, he1⟩, b3⟩
        have HZ := Lib.hid (show CmL w w3 B (SubV vs) (aftT t0.er (cs.take (j + 1))) (10000 + (j + 1)) t1 from ⟨ht1, by rw [he1, HE.out, HW.out.er]; rfl, bt HW.out.ex (bt xa b3), by
          rw [he1]
          have h1 := HSZ.out
          have h2 := HE.out
          rw [h2] at h1
          rw [HW.out.er]
          exact Nat.le_trans h1 (by omega)⟩)
        clear xa b3 ht1 he1 k1 k2 k3
        go_wp2
        go_roundw
        case rel => exact ⟨j + 1, t1, by omega, by go_num, rfl, HZ.out⟩
        case measure => simp [intOf]; omega
      | false =>
        go_wp2_with fail
        have xa : Ext wr (wr.alloc (.cells #[.string k, .string v, .bool false] TCG)) := Ext.allocR _ _
        refine (rset_any B (Qn w B (SubV vs)) k v t _ (HW.out.tr.below xa) ((frs_qn w (SubV vs) HI.out.bz).ext (bt HW.out.ex xa)) (by omega)).mono ?_
        rintro e w3 ⟨z3, rfl, ⟨t1, rfl, ht1, he1⟩, b3⟩
        have HZ := Lib.hid (show CmL w w3 B (SubV vs) (aftT t0.er (cs.take (j + 1))) (10000 + (j + 1)) t1 from ⟨ht1, by rw [he1, HE.out, HW.out.er]; rfl, bt HW.out.ex (bt xa b3), by
          rw [he1]
          have h1 := HSZ.out
          have h2 := HE.out
          rw [h2] at h1
          rw [HW.out.er]
          exact Nat.le_trans h1 (by omega)⟩)
        clear xa b3 ht1 he1 k1 k2 k3
        go_wp2
        go_roundw
        case rel => exact ⟨j + 1, t1, by omega, by go_num, rfl, HZ.out⟩
        case measure => simp [intOf]; omega
    · obtain rfl : j = n := by omega
      have HW2 := Lib.hid (show CmL w wr B (SubV vs) (aftT t0.er cs) 10016 t by
        have h1 := HW.out
        rw [List.take_of_length_le (by rw [HCL.out]; exact Nat.le_refl _)] at h1
        exact ⟨h1.tr, h1.er, h1.ex, by have := h1.sz; omega⟩)
      clear hw HW
      go_wp2_with fail
      refine (rfresh_any B (Qn w B (SubV vs)) t wr HW2.out.tr (by have := HW2.out.sz; omega)).mono ?_
      rintro e w3 ⟨z3, rfl, ho3, b3⟩
      obtain ⟨q1, hq1⟩ : ∃ q1, (t.fr B).length = q1 := ⟨_, rfl⟩
      obtain ⟨q2, hq2⟩ : ∃ q2, (frF B vs (upB (bl.length - 2))).length = q2 := ⟨_, rfl⟩
      have hn1 : w3.ownsRow 0 TNP 1 z3 q1 (ptrs (t.fr B)) := by
        have := own_lower ho3 (Nat.zero_le _)
        rw [hq1] at this
        exact this
      obtain ⟨A3, c3, rfl, _⟩ := own_rv hn1
      have hq1l : q1 ≤ 10016 := by have h1 := MT.fr_len B t; have h2 := HW2.out.sz; omega
      have hq2l : q2 ≤ 4096 := by
        have h1 := (frF_sub B vs (upB (bl.length - 2))).length_le
        have h2 := HI.out.dk.few
        unfold upB at h1
        rw [List.length_range'] at h1
        unfold upB at hq2
        omega
      have HN1 := Lib.hid hn1
      have X3 := Lib.hid (show Ext w w3 from bt HW2.out.ex b3)
      have HT3 := Lib.hid (HW2.out.tr.below b3)
      have HQ1 := Lib.hid hq1
      have HQ2 := Lib.hid hq2
      clear ho3 hn1 b3 hq1 hq2
      obtain ⟨g, hdi, hdlo, hdfp⟩ := HI.out.dk
      have hne : lastsB bl ≠ [] := fun e => by
        have h1 := congrArg List.length e
        rw [List.length_map, List.length_nil] at h1
        have := H2.out
        omega
      obtain ⟨gb, cap, hgv, hg1, hg2, hgd⟩ := hdi.form hne
      rw [List.length_map] at hgd hg1
      have HGD := Lib.hid hgd
      clear hdi hdlo hdfp hne hgv hg1 hg2 hgd
      go_wp2_with fail
      refine (rfree_any B (Pos B) (fun a => Nat.le_trans (HI.out.bm a) (by omega)) s d keep (some ⟨gk, 0, none⟩) (some ⟨gb, 0, none⟩) m c0 bl.length cap g.m false false left vs w3 (HS.out.below X3.out) ((own_rvv HRW.out).below X3.out) (fun v hv => (HI.out.tr v hv).below X3.out) (HGD.out.below X3.out) H2.out HI.out.dk.few (by omega)).mono ?_
      rintro e w4 ⟨z4, rfl, ho4, b4⟩
      have hn2 : w4.ownsRow 0 TIN 1 z4 q2 (ri (frF B vs (upB (bl.length - 2)))) := by
        have := own_lower ho4 (Nat.zero_le _)
        rw [HQ2.out] at this
        exact this
      obtain ⟨A4, c4, rfl, _⟩ := own_rv hn2
      have HN2 := Lib.hid hn2
      have X4 := Lib.hid (show Ext w w4 from bt X3.out b4)
      have HT4 := Lib.hid (HT3.out.below b4)
      have HN1' := Lib.hid (own_below HN1.out b4)
      have hle3 := (own_rvv HN1'.out).le
      have hcp3 := (own_rvv HN1'.out).cap
      have hle4 := (own_rvv hn2).le
      have hcp4 := (own_rvv hn2).cap
      clear ho4 hn2 b4 HN1 HT3 HGD
      have HMIX := Lib.hid (TrW.mix X4.out HI.out.bz HT4.out)
      have hsrt : Srtd t.er.prs := by rw [HW2.out.er, aftT_prs cs HSR.out]; exact aft_srtd cs HSR.out
      have HSRT := Lib.hid hsrt
      have HND := Lib.hid (HT4.out.fr_nodup hsrt)
      clear hsrt
      by_cases hfull : q2 < q1
      · have p1 : (q2 : Int) < (q1 : Int) := by omega
        have HZ := Lib.hid (show CmtR F w w4 s d keep num vs B bl left (aftT t0.er cs) (ansV 0 8) from ⟨t, HW2.out.er, HMIX.out, HND.out, .full (by show (frF B vs (upB (bl.length - 2))).length < (t.fr B).length; rw [HQ1.out, HQ2.out]; exact hfull) rfl X4.out⟩)
        go_wp2_with fail
        go_returns
        exact HZ.out
      · have p1 : ¬ (q2 : Int) < (q1 : Int) := by omega
        have p1' : q1 ≤ q2 := by omega
        clear hfull
        have kk0 := fun w' (hh : Ext w4 w') => ext_cell (bt X4.out hh) K0.out.1
        have kks := fun w' (hh : Ext w4 w') => (HS.out.below (bt X4.out hh)).cells
        simp only [cellsAre, Nat.zero_add, Nat.reduceAdd, and_true] at kks
        have hst : Ext w4 w4.drew := Ext.drew _
        have wn : IntKind.i64.wrap ((num : Int) + 1) = (num : Int) + 1 := IntWalk.i64_in _ (by omega)
        go_upto_region 16 with fail
        refine wp_region_adv 15 [] [(0, true, some 55, none), (1, true, some 56, none), (2, true, some 57, none), (3, true, some 58, none), (4, true, some 59, none), (5, true, some 60, none), (6, true, some 61, none), (7, true, some 62, none), (8, true, some 63, none), (9, true, some 64, none), (11, true, some 66, none), (12, true, some 67, none), (13, true, some 68, none), (14, true, some 69, none), (10, false, some 65, none)] (by kernel_rfl) (by kernel_rfl) (by kernel_rfl) (by intro it hit; (repeat (rcases List.mem_cons.1 hit with rfl | hit; (focus (intro o ho ev w; injection ho with ho; subst ho; kernel_rfl)))); cases hit) (fun _ _ _ _ _ => ⟨fun h => h, fun h => h⟩) hst ?_
        repeat (first | (refine wpSeq_pure (v := ?_) rfl ?_ ?_; rotate_left 1; (focus (intro wq_ hSq_; (try dsimp only at hSq_); go_simp; (try with_reducible rfl); done)); (try simp only [Act.put, List.setIfInBounds_toArray, List.set_cons_zero, List.set_cons_succ])) | (refine wpSeq_pureG (v := ?_) rfl rfl ?_ ?_; rotate_left 1; (focus (intro wq_ hSq_; (try dsimp only at hSq_); go_simp; (try with_reducible rfl); done)); (try simp only [Act.put, List.setIfInBounds_toArray, List.set_cons_zero, List.set_cons_succ])) | (refine wpSeq_off rfl rfl ?_; (try simp only [Act.put, List.setIfInBounds_toArray, List.set_cons_zero, List.set_cons_succ])) | (refine wpSeq_offU rfl ?_; (try simp only [Act.put, List.setIfInBounds_toArray, List.set_cons_zero, List.set_cons_succ])))
        first | refine wpSeq_call rfl (fun u1 g1 s1 K hK => ?_) | refine wpSeq_callG rfl rfl (fun u1 g1 s1 K hK => ?_)
        go_simp
        (try go_wp2_with fail)
        refine hK.out _ _ (Ext.allocR _ _) ?_
        clear hK K
        (try simp only [Act.put, List.setIfInBounds_toArray, List.set_cons_zero, List.set_cons_succ])
        repeat (first | (refine wpSeq_pure (v := ?_) rfl ?_ ?_; rotate_left 1; (focus (intro wq_ hSq_; (try dsimp only at hSq_); go_simp; (try with_reducible rfl); done)); (try simp only [Act.put, List.setIfInBounds_toArray, List.set_cons_zero, List.set_cons_succ])) | (refine wpSeq_pureG (v := ?_) rfl rfl ?_ ?_; rotate_left 1; (focus (intro wq_ hSq_; (try dsimp only at hSq_); go_simp; (try with_reducible rfl); done)); (try simp only [Act.put, List.setIfInBounds_toArray, List.set_cons_zero, List.set_cons_succ])) | (refine wpSeq_off rfl rfl ?_; (try simp only [Act.put, List.setIfInBounds_toArray, List.set_cons_zero, List.set_cons_succ])) | (refine wpSeq_offU rfl ?_; (try simp only [Act.put, List.setIfInBounds_toArray, List.set_cons_zero, List.set_cons_succ])))
        intro w5 g5 s5
        (try simp only [endJ, List.drop_succ_cons, List.drop_zero])
        have hr1 := (rv_lit (w := u1) TVE 2 #[.int .i64 ((num : Int) + 1), .pointer t.ad] 1 (by omega) rfl).below g5
        have e1 : (#[Value.int .i64 ((num : Int) + 1), .pointer t.ad]).toList = vc [(num + 1, t)] := by
          show [Value.int .i64 ((num : Int) + 1), .pointer t.ad] = [Value.int .i64 ((num + 1 : Nat) : Int), .pointer t.ad]
          rw [show ((num + 1 : Nat) : Int) = (num : Int) + 1 by omega]
        rw [e1] at hr1
        have HR1 := Lib.hid hr1
        obtain ⟨b1, hb1⟩ : ∃ b1, u1.heap.size = b1 := ⟨_, rfl⟩
        rw [hb1] at HR1 ⊢
        have X5 := Lib.hid (show Ext w w5 from bt X4.out s5)
        have HT5 := Lib.hid (HT4.out.below s5)
        have HN1 := Lib.hid (own_below HN1'.out s5)
        have HN2' := Lib.hid (own_below HN2.out s5)
        clear hr1 e1 kk0 kks hst s1 g1 g5 s5 HN1' HN2 HT4 hb1
        go_wp2_with fail
        have xa : Ext w5 (w5.alloc (.cells #[.slice (some ⟨b1, 0, none⟩) 1 1, .slice (some ⟨gk, 0, none⟩) m c0] TVS)) := Ext.allocR _ _
        refine (rconcat_any w5.heap.size 0 2 (some ⟨b1, 0, none⟩) (some ⟨gk, 0, none⟩) 1 1 m c0 [(num + 1, t)] vs _ (rv_lit TVS 1 #[.slice (some ⟨b1, 0, none⟩) 1 1, .slice (some ⟨gk, 0, none⟩) m c0] 2 (by omega) rfl) (HR1.out.below xa) ((own_rvv HRW.out).below (bt X5.out xa)) (by omega) (by omega) (by omega)).mono ?_
        rintro e w6 ⟨z6, rfl, ho6, b6⟩
        have ho6' : w6.ownsRow 0 TVE 2 z6 (m + 1) (vc ((num + 1, t) :: vs)) := by
          have := own_lower ho6 (Nat.zero_le _)
          rw [List.length_append, HVM.out, List.length_singleton, Nat.add_comm] at this
          exact this
        obtain ⟨A6, c6, rfl, _⟩ := own_rv ho6'
        have HO6 := Lib.hid ho6'
        have X6 := Lib.hid (show Ext w w6 from bt X5.out (bt xa b6))
        have HT6 := Lib.hid (HT5.out.below (bt xa b6))
        have HN1' := Lib.hid (own_below HN1.out (bt xa b6))
        have HN2 := Lib.hid (own_below HN2'.out (bt xa b6))
        have hle6 := (own_rvv ho6').le
        have hcp6 := (own_rvv ho6').cap
        clear ho6 ho6' xa b6 HR1 HT5 HN1 HN2' X5
        have ks6 := (HS.out.below X6.out).cells
        simp only [cellsAre, Nat.zero_add, Nat.reduceAdd, and_true] at ks6
        obtain ⟨q, hq⟩ : ∃ q, min (m + 1) (keep + 1) = q := ⟨_, rfl⟩
        have HQ := Lib.hid hq
        have wm : IntKind.i64.wrap ((keep : Int) + 1) = ((keep + 1 : Nat) : Int) := by rw [IntWalk.i64_in _ (by omega)]; omega
        go_upto_region 17 with fail
        go_cut [11] (fun v wx => v = .slice A6 q c6 ∧ w6 = wx)
        case first =>
          go_wp2_with fail
          go_meet
          exact ⟨by rw [show (min (m : Int) (keep : Int) + 1).toNat = q by omega], rfl⟩
        case rest =>
          obtain ⟨rfl, rfl⟩ := hcut
          have hq1 : 1 ≤ q := by omega
          have hqm : q ≤ m + 1 := by omega
          have hnw : OwS 0 w6 (.slice A6 q c6) (((num + 1, t) :: vs).take (keep + 1)) := by
            have h1 := own_take HO6.out hqm
            have e1 : ((num + 1, t) :: vs).take (keep + 1) = ((num + 1, t) :: vs).take q := by
              rcases Nat.lt_or_ge keep m with hkm | hkm
              · rw [show q = keep + 1 by omega]
              · rw [List.take_of_length_le (by rw [List.length_cons, HVM.out]; omega), List.take_of_length_le (by rw [List.length_cons, HVM.out]; omega)]
            have e2 : (vc ((num + 1, t) :: vs)).take (q * 2) = vc (((num + 1, t) :: vs).take q) := vc_take _ _
            rw [e2] at h1
            unfold OwS
            rw [e1, List.length_take, List.length_cons, HVM.out, Nat.min_eq_left (by omega)]
            exact h1
          have HNW := Lib.hid hnw
          have HSS := Lib.hid (HS.out.below X6.out)
          have HOKT := Lib.hid (show OkP t.er.prs by rw [HW2.out.er, aftT_prs cs HSR.out]; exact aft_ok cs HOK.out HOC.out)
          obtain ⟨fs, hfs⟩ : ∃ fs, frF B vs (upB (bl.length - 2)) = fs := ⟨_, rfl⟩
          rw [hfs] at HN2 HQ2
          have HFM := Lib.hid (show ∀ f ∈ fs, 2 ≤ f ∧ f < bl.length from fun f hf => by rw [← hfs] at hf; exact frF_mem B vs hf)
          have HFS := Lib.hid hfs
          obtain ⟨r1, hr1⟩ : ∃ r1, wrA ((t.frs B).map (ptB (asg B (t.fr B) fs))) bl left = r1 := ⟨_, rfl⟩
          have HR1 := Lib.hid hr1
          clear hnw ks6 hfs hr1 hqm hq
          go_wp2_with fail
          refine (rwr_any (F := fun b => F b ∧ b ≠ s) s d keep (some ⟨gk, 0, none⟩) m c0 false B (Qn w B (SubV vs)) t fs bl left w6 HSS.out (fun hx => hx.2 rfl) ((HI.out.dk.ext X6.out).not HSS.out) (fun b hb => ⟨HF.out b (Nat.le_trans (Ext.size X6.out) hb), by have := HSS.out.lt; omega⟩) HT6.out HSRT.out HOKT.out HI.out.bm (by have := HW2.out.sz; omega) (fun f hf => (HFM.out f hf).2) q1 q2 HQ1.out HQ2.out p1' HFW.out A3 A4 c3 c4 HN1'.out HN2.out _ rfl).mono ?_
          rintro e w7 ⟨rfl, hE⟩
          rw [HR1.out] at hE ⊢
          have HC1 := Lib.hid (show (cmtOf keep num vs B bl left t).r1 = r1 by
            show wrA ((t.frs B).map (ptB (asg B (t.fr B) (frF B vs (upB (bl.length - 2)))))) bl left = r1
            rw [HFS.out]
            exact HR1.out)
          have HLEN := Lib.hid (show (cmtOf keep num vs B bl left t).gs.length ≤ (cmtOf keep num vs B bl left t).fs.length by
            show (t.fr B).length ≤ (frF B vs (upB (bl.length - 2))).length
            rw [HFS.out, HQ1.out, HQ2.out]
            exact p1')
          have HBL := Lib.hid (show r1.bl.length = bl.length by rw [← HR1.out]; exact wrA_len _ _ _)
          have HBF := Lib.hid (show ∀ k, (r1.bl.getD k []).length ≤ 100000 from fun k => by
            have h1 := wrA_few ((t.frs B).map (ptB (asg B (t.fr B) fs))) (left := left) HFW.out (by omega) k
            rw [List.length_map, MT.frs_len, HQ1.out, HR1.out] at h1
            omega)
          have hcw : Chg (MF F) w w7 := Chg.wr X6.out hE.ch (fun b hb => hb.1) fun g hg => (HT6.out.fr_new g hg).1
          have HCW := Lib.hid (show CmW F w w7 s d keep num vs B bl t (some ⟨gk, 0, none⟩) m c0 A6 q c6 r1.bl r1.dn r1.lf from
            ⟨hE.ch.blk HSS.out (fun hX => by
              rcases hX with hX | ⟨_, cs, hX⟩
              · exact hX.1.2 rfl
              · injection hX with _ hX
                revert hX
                decide), hE.ch.own (own_below HRW.out X6.out) (fun b cs _ => XW.ve b cs), hE.ch.own HNW.out (fun b cs _ => XW.ve b cs), hE.dk, hcw, fun g hg => Nat.lt_of_lt_of_le (HT6.out.fr_new g hg).2 hE.ch.size⟩)
          have HTR := Lib.hid hE.tr
          clear hE hcw HSS HN1' HN2 HNW
          obtain ⟨b1, dn1, l1⟩ := r1
          have ks7 := HCW.out.se.cells
          have fs7 := HCW.out.se.free
          simp only [cellsAre, Nat.zero_add, Nat.reduceAdd, and_true] at ks7
          cases dn1 with
          | true =>
            have HZ := Lib.hid (HCW.out.down HI.out)
            have HA := Lib.hid (show CmtR F w (w7.setCell ⟨s, 3, none⟩ (.bool true)) s d keep num vs B bl left (aftT t0.er cs) (ansV 0 9) from
              ⟨t, HW2.out.er, HMIX.out, HND.out, .down1 HLEN.out (by rw [HC1.out]) rfl (by rw [HC1.out]; exact HZ.out.1) HZ.out.2⟩)
            clear HZ
            rw [show erD ⟨b1, true, l1⟩ = 9 from rfl]
            go_wp2_with fail
            go_returns
            exact HA.out
          | false =>
            have ht' : TrW w7 (asg B (t.fr B) fs) (Qn w B (SubV vs)) t := HTR.out rfl
            have HT7 := Lib.hid ht'
            have HBp := Lib.hid (show ∀ a, 0 < B a → asg B (t.fr B) fs a = B a from fun a ha => asg_not fun hm => by have := MT.fr_zero B t a hm; omega)
            have HTV := Lib.hid (show ∀ v ∈ (((num + 1, t) :: vs).take (keep + 1)), TrW w7 (asg B (t.fr B) fs) (fun _ => True) v.2 from fun v hv => by
              rcases List.mem_cons.1 (List.mem_of_mem_take hv) with rfl | hv
              · exact ht'.imp fun _ _ _ => trivial
              · exact (((HI.out.tr v hv).congr HBp.out).chg HCW.out.ch MF.no).imp fun _ _ _ => trivial)
            have HFM4 := Lib.hid (show ∀ f ∈ fs, 2 ≤ f ∧ f ≤ 4096 from fun f hf => ⟨(HFM.out f hf).1, by have := (HFM.out f hf).2; have := HI.out.dk.few; omega⟩)
            obtain ⟨r2, hr2⟩ : ∃ r2, wrA [((num + 1) % 2, blkB (rootB keep (num + 1) (rtB (asg B (t.fr B) fs) (((num + 1, t) :: vs).take (keep + 1)))))] b1 l1 = r2 := ⟨_, rfl⟩
            have HR2 := Lib.hid hr2
            have HC2 := Lib.hid (show (cmtOf keep num vs B bl left t).r2 = r2 by
              have h1 : (cmtOf keep num vs B bl left t).r2 = wrA [((num + 1) % 2, blkB (rootB keep (num + 1) (rtB (asg B (t.fr B) (frF B vs (upB (bl.length - 2)))) (((num + 1, t) :: vs).take (keep + 1)))))] (cmtOf keep num vs B bl left t).r1.bl (cmtOf keep num vs B bl left t).r1.lf := rfl
              rw [h1, HC1.out, HFS.out]
              exact hr2)
            clear ht' hr2
            rw [show erD ⟨b1, false, l1⟩ = 0 from rfl]
            go_wp2_with fail
            refine (ranchor_any (F := fun b => F b ∧ b ≠ s) s d keep (some ⟨gk, 0, none⟩) m c0 false (asg B (t.fr B) fs) (fun _ => True) (((num + 1, t) :: vs).take (keep + 1)) b1 l1 w7 HCW.out.se HCW.out.dk (fun b hb => ⟨HF.out b (Nat.le_trans HCW.out.ch.size hb), by have := HCW.out.se.lt; omega⟩) (fun hx => hx.2 rfl) A6 q c6 (own_rvv HCW.out.nw) hq1 (by have := HQ.out; omega) (num + 1) t rfl (by omega) HTV.out (asg_le HI.out.bm fun f hf => (HFM4.out f hf).2) (by omega) (by have h1 := HBL.out; have h2 := H2.out; show 2 ≤ b1.length; have h3 : b1.length = bl.length := h1; omega) HBF.out r2 HR2.out).mono ?_
            rintro e w8 ⟨rfl, hE⟩
            have hc8 : Chg (MF F) w7 w8 := hE.ch.mono fun b o hX => ⟨hX.1.1, hX.2⟩
            have HC8 := Lib.hid hc8
            have HCW8 := Lib.hid (show CmW F w w8 s d keep num vs B bl t (some ⟨gk, 0, none⟩) m c0 A6 q c6 r2.bl r2.dn r2.lf from
              ⟨hE.ch.blk HCW.out.se (fun hX => hX.1.2 rfl), hE.ch.own HCW.out.ol (fun b cs _ => MF.ve b cs), hE.ch.own HCW.out.nw (fun b cs _ => MF.ve b cs), hE.dk, HCW.out.ch.trans hc8, fun g hg => Nat.lt_of_lt_of_le (HCW.out.gl g hg) hE.ch.size⟩)
            clear hE hc8 ks7 fs7
            obtain ⟨b2, dn2, l2⟩ := r2
            have ks8 := HCW8.out.se.cells
            have fs8 := HCW8.out.se.free
            simp only [cellsAre, Nat.zero_add, Nat.reduceAdd, and_true] at ks8
            cases dn2 with
            | true =>
              have HZ := Lib.hid (HCW8.out.down HI.out)
              have HA := Lib.hid (show CmtR F w (w8.setCell ⟨s, 3, none⟩ (.bool true)) s d keep num vs B bl left (aftT t0.er cs) (ansV 0 9) from
                ⟨t, HW2.out.er, HMIX.out, HND.out, .down2 HLEN.out (by rw [HC1.out]) (by rw [HC2.out]) rfl (by rw [HC2.out]; exact HZ.out.1) HZ.out.2⟩)
              clear HZ
              rw [show erD ⟨b2, true, l2⟩ = 9 from rfl]
              go_wp2_with fail
              go_returns
              exact HA.out
            | false =>
              have HZ := Lib.hid (HCW8.out.done HI.out X6.out HT6.out HT7.out HC8.out HND.out HFM4.out (by rw [HQ1.out, HQ2.out]; exact p1'))
              have hnr := HCW8.out.nw
              have HA := Lib.hid (show CmtR F w (w8.setCell ⟨s, 2, none⟩ (.slice A6 q c6)) s d keep num vs B bl left (aftT t0.er cs) (ansV ((num + 1 : Nat) : Int) 0) from
                ⟨t, HW2.out.er, HMIX.out, HND.out, .ok HLEN.out (by rw [HC1.out]) (by rw [HC2.out]) rfl (by
                  have e1 : (cmtOf keep num vs B bl left t).B = asg B (t.fr B) fs := by rw [← HFS.out]; rfl
                  rw [HC2.out, e1]
                  exact HZ.out.1) HZ.out.2⟩)
              obtain ⟨g6, hA6, k6⟩ : ∃ g, A6 = some ⟨g, 0, none⟩ ∧ w8.cell? ⟨g, 0, none⟩ = some (.int .i64 ((num + 1 : Nat) : Int)) := by
                obtain ⟨b', o', e, hc⟩ := (own_rvv hnr).at_ (by omega)
                rcases hnr.2 with ⟨e2, _⟩ | ⟨g, cap, cur, e2, _⟩
                · injection e2 with _ e2 _
                  omega
                · injection e2 with e2 _ _
                  refine ⟨g, e2, ?_⟩
                  rw [e2] at e
                  injection e with e
                  injection e with e3 e4
                  subst e3 e4
                  exact hc 0 _ rfl
              subst hA6
              have hne : g6 ≠ s := fun e => by
                subst e
                rcases hnr.2 with ⟨e2, _⟩ | ⟨g, cap, cur, e2, _, h3, _⟩
                · cases e2
                · injection e2 with e2 _ _
                  injection e2 with e2
                  injection e2 with e2
                  subst e2
                  have h4 := HCW8.out.se
                  unfold Blk at h4
                  rw [h3] at h4
                  injection h4 with h4
                  injection h4 with _ h4
                  revert h4
                  decide
              have hne' : s ≠ g6 := fun e => hne e.symm
              obtain ⟨p6, hp6⟩ : ∃ p6 : Int, ((num + 1 : Nat) : Int) = p6 := ⟨_, rfl⟩
              rw [hp6] at k6 HA
              clear hnr HZ hp6
              have hq0 : 0 < q := hq1
              rw [show erD ⟨b2, false, l2⟩ = 0 from rfl]
              go_wp2_with fail
              go_returns
              exact HA.out
end Go.Proofs.Tb
