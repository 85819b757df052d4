/- Contracts of key, batch, and the store's Broken and made. -/
import Derived.Test.YtfljnfdeboibhaaSvg
set_option linter.unusedVariables false
set_option linter.unusedSimpArgs false
namespace Go.Proofs.Tb
open Go.Maps Go.RowKit Go.Lib
attribute [local go_sem] cell_set_same neqMapL

def keyB (s : Str) : Bool := decide (1 ≤ s.size) && decide (s.size ≤ 12)
def chgB (c : Cg) : Bool := keyB c.k && decide (c.v.size ≤ 24) && (!c.gone || decide (c.v.size = 0))
def batB (cs : List Cg) : Bool := cs.all chgB && decide (1 ≤ cs.length) && decide (cs.length ≤ 16)
theorem batB_ok {cs : List Cg} (h : batB cs = true) : OkC cs ∧ 1 ≤ cs.length ∧ cs.length ≤ 16 := by
  unfold batB at h
  rw [Bool.and_eq_true, Bool.and_eq_true] at h
  refine ⟨fun c hc => ?_, of_decide_eq_true h.1.2, of_decide_eq_true h.2⟩
  have h1 := List.all_eq_true.1 h.1.1 c hc
  unfold chgB keyB at h1
  simp at h1
  exact ⟨h1.1.1.2, h1.1.2⟩
set_option maxHeartbeats 1600000 in
set_option maxRecDepth 100000 in
theorem rkey_any (s : Str) (hs : s.size ≤ 1000000000) (w : World) : Calls Try.prog 76 #[.string s] w (Ret (fun v _ => v = .bool (keyB s)) w) := by
  obtain ⟨n, hn⟩ : ∃ n, s.size = n := ⟨_, rfl⟩
  have HN := Lib.hid hn
  have HK := Lib.hid (show keyB s = (decide (1 ≤ n) && decide (n ≤ 12)) by unfold keyB; rw [hn])
  rcases Nat.lt_or_ge n 1 with h1 | h1
  · have HE := Lib.hid (show keyB s = false by rw [HK.out, decide_eq_false (by omega)]; rfl)
    obtain rfl : n = 0 := by omega
    clear h1
    go_enter Try.func76, Try.ntmps76
    go_wp2
    go_returns
    exact ⟨_, rfl, by rw [HE.out]; rfl, Below.refl _ _⟩
  · have p1 : (1 : Int) ≤ (n : Int) := by omega
    have p1' : 1 ≤ n := h1
    rcases Nat.lt_or_ge 12 n with h2 | h2
    · have HE := Lib.hid (show keyB s = false by rw [HK.out, decide_eq_false (p := n ≤ 12) (by omega), Bool.and_false])
      have p2 : ¬ (n : Int) ≤ 12 := by omega
      have p2' : ¬ n ≤ 12 := by omega
      go_enter Try.func76, Try.ntmps76
      go_wp2
      go_returns
      exact ⟨_, rfl, by rw [HE.out]; rfl, Below.refl _ _⟩
    · have HE := Lib.hid (show keyB s = true by rw [HK.out, decide_eq_true (by omega), decide_eq_true (p := n ≤ 12) (by omega)]; rfl)
      have p2 : (n : Int) ≤ 12 := by omega
      have p2' : n ≤ 12 := by omega
      go_enter Try.func76, Try.ntmps76
      go_wp2
      go_returns
      exact ⟨_, rfl, by rw [HE.out]; rfl, Below.refl _ _⟩
set_option maxHeartbeats 3200000 in
set_option maxRecDepth 100000 in
theorem rbatch_any (A : Option Addr) (n c : Nat) (cs : List Cg) (w : World) (h : Rv w 3 A n c (ccs cs)) (hn : n ≤ 1000) (hcs : ∀ c ∈ cs, c.k.size ≤ 1000000000 ∧ c.v.size ≤ 1000000000) :
    Calls Try.prog 48 #[.slice A n c] w (Ret (fun v _ => v = .bool (batB cs)) w) := by
  have hl : cs.length = n := by have := h.len; rw [ccs_len] at this; omega
  have hle := h.le
  have hcp := h.cap
  have H := Lib.hid h
  have HL := Lib.hid hl
  have HC := Lib.hid hcs
  clear h hl hcs
  go_enter Try.func48, Try.ntmps48
  go_wp2_with fail
  go_loopw [7] (fun i wr => ∃ j : Nat, j ≤ n ∧ i = .int .i64 (j : Int) ∧ (cs.take j).all chgB = true ∧ Ext w wr) (fun i _ => n - (intOf i).toNat)
  case atStart => exact ⟨0, by omega, rfl, by simp, Ext.refl _⟩
  case round =>
    obtain ⟨j, hj, rfl, hall, hx⟩ := hrel
    have HALL := Lib.hid hall
    have HX := Lib.hid hx
    clear hall
    by_cases hjn : j < n
    · have pj : (j : Int) < (n : Int) := by omega
      have hjl : j < cs.length := by rw [HL.out]; exact hjn
      obtain ⟨b, o, rfl, hc⟩ := (H.out.below hx).at_ (by omega)
      obtain ⟨c1, c2, c3⟩ := ccs_at cs j hjl
      have k1 := hc _ _ c1
      have k2 := hc _ _ c2
      have k3 := hc _ _ c3
      rw [← Nat.add_assoc] at k2 k3
      have hsz := HC.out _ (List.getElem_mem hjl)
      have HN := Lib.hid (show (cs.take (j + 1)).all chgB = chgB cs[j] by rw [List.take_succ_eq_append_getElem hjl, List.all_append, HALL.out]; simp)
      have HM := Lib.hid (show chgB cs[j] = false → batB cs = false from fun hf => by
        unfold batB
        have : cs.all chgB = false := by
          rw [← Bool.not_eq_true, List.all_eq_true]
          intro ha
          rw [ha _ (List.getElem_mem hjl)] at hf
          cases hf
        rw [this]; rfl)
      obtain ⟨x, hx0⟩ : ∃ x, cs[j] = x := ⟨_, rfl⟩
      rw [hx0] at k1 k2 k3 hsz HN HM
      obtain ⟨k, v, gone⟩ := x
      clear hc c1 c2 c3 hx0 hjl hx
      have hks : k.size ≤ 1000000000 := hsz.1
      obtain ⟨q, hq⟩ : ∃ q, v.size = q := ⟨_, rfl⟩
      have hqs : q ≤ 1000000000 := by rw [← hq]; exact hsz.2
      have HQ := Lib.hid hq
      have HCH := Lib.hid (show chgB ⟨k, v, gone⟩ = (keyB k && decide (q ≤ 24) && (!gone || decide (q = 0))) by unfold chgB; rw [hq])
      obtain ⟨kb, hkb⟩ : ∃ kb, keyB k = kb := ⟨_, rfl⟩
      rw [hkb] at HCH
      have HKB := Lib.hid hkb
      clear hkb hsz
      cases kb with
      | false =>
        have HE := Lib.hid (HM.out (by rw [HCH.out]; rfl))
        go_wp2_with fail
        have xa : Ext w (wr.alloc (.cells #[.string k, .string v, .bool gone] TCG)) := bt HX.out (Ext.allocR _ _)
        refine (rkey_any k hks _).mono ?_
        rintro e w3 ⟨z3, rfl, rfl, b3⟩
        rw [HKB.out]
        have HXA := Lib.hid (bt xa b3)
        have kb := ((Blk.new_ TCG _ rfl).below b3).cells
        simp only [cellsAre, Nat.zero_add, Nat.reduceAdd, and_true] at kb
        clear xa b3
        go_wp2
        go_returns
        exact ⟨_, rfl, by rw [HE.out]; rfl, HXA.out⟩
      | true =>
        rcases Nat.lt_or_ge 24 q with h2 | h2
        · have HE := Lib.hid (HM.out (by rw [HCH.out, decide_eq_false (p := q ≤ 24) (by omega)]; rfl))
          have p2 : (24 : Int) < (q : Int) := by omega
          go_wp2_with fail
          have xa : Ext w (wr.alloc (.cells #[.string k, .string v, .bool gone] TCG)) := bt HX.out (Ext.allocR _ _)
          refine (rkey_any k hks _).mono ?_
          rintro e w3 ⟨z3, rfl, rfl, b3⟩
          rw [HKB.out]
          have HXA := Lib.hid (bt xa b3)
          have kb := ((Blk.new_ TCG _ rfl).below b3).cells
          simp only [cellsAre, Nat.zero_add, Nat.reduceAdd, and_true] at kb
          clear xa b3
          go_wp2
          go_returns
          exact ⟨_, rfl, by rw [HE.out]; rfl, HXA.out⟩
        · have p2 : ¬ (24 : Int) < (q : Int) := by omega
          have p2' : ¬ 24 < q := by omega
          cases gone with
          | false =>
            have HE := Lib.hid (show (cs.take (j + 1)).all chgB = true by rw [HN.out, HCH.out, decide_eq_true (p := q ≤ 24) (by omega)]; rfl)
            go_wp2_with fail
            have xa : Ext w (wr.alloc (.cells #[.string k, .string v, .bool false] TCG)) := bt HX.out (Ext.allocR _ _)
            refine (rkey_any k hks _).mono ?_
            rintro e w3 ⟨z3, rfl, rfl, b3⟩
            rw [HKB.out]
            have HXA := Lib.hid (bt xa b3)
            have kb := ((Blk.new_ TCG _ rfl).below b3).cells
            simp only [cellsAre, Nat.zero_add, Nat.reduceAdd, and_true] at kb
            clear xa b3
            go_wp2
            go_roundw
            case rel => exact ⟨j + 1, by omega, by go_num, HE.out, HXA.out⟩
            case measure => simp [intOf]; omega
          | true =>
            by_cases hq0 : q = 0
            · subst hq0
              have hv0 : v.toList = [] := by
                have : v.toList.length = 0 := (by rw [ByteArray.toList_eq]; exact hq)
                exact List.eq_nil_of_length_eq_zero this
              have hv1 : v.toList.isEmpty = true := by rw [hv0]; rfl
              have HE := Lib.hid (show (cs.take (j + 1)).all chgB = true by rw [HN.out, HCH.out]; rfl)
              go_wp2_with fail
              have xa : Ext w (wr.alloc (.cells #[.string k, .string v, .bool true] TCG)) := bt HX.out (Ext.allocR _ _)
              refine (rkey_any k hks _).mono ?_
              rintro e w3 ⟨z3, rfl, rfl, b3⟩
              rw [HKB.out]
              have HXA := Lib.hid (bt xa b3)
              have kb := ((Blk.new_ TCG _ rfl).below b3).cells
              simp only [cellsAre, Nat.zero_add, Nat.reduceAdd, and_true] at kb
              clear xa b3
              go_wp2
              go_roundw
              case rel => exact ⟨j + 1, by omega, by go_num, HE.out, HXA.out⟩
              case measure => simp [intOf]; omega
            · have hvl : v.toList.length = q := by rw [ByteArray.toList_eq]; exact hq
              have hv0 : ¬ v.toList = [] := fun e => hq0 (by rw [← hvl, e]; rfl)
              have hv1 : v.toList.isEmpty = false := by rw [List.isEmpty_eq_false_iff]; exact hv0
              have HE := Lib.hid (HM.out (by rw [HCH.out, decide_eq_false hq0, decide_eq_true (p := q ≤ 24) (by omega)]; rfl))
              clear hq0 hvl
              go_wp2_with fail
              have xa : Ext w (wr.alloc (.cells #[.string k, .string v, .bool true] TCG)) := bt HX.out (Ext.allocR _ _)
              refine (rkey_any k hks _).mono ?_
              rintro e w3 ⟨z3, rfl, rfl, b3⟩
              rw [HKB.out]
              have HXA := Lib.hid (bt xa b3)
              have kb := ((Blk.new_ TCG _ rfl).below b3).cells
              simp only [cellsAre, Nat.zero_add, Nat.reduceAdd, and_true] at kb
              clear xa b3
              go_wp2
              go_returns
              exact ⟨_, rfl, by rw [HE.out]; rfl, HXA.out⟩
    · obtain rfl : j = n := by omega
      have HE := Lib.hid (show batB cs = (decide (1 ≤ j) && decide (j ≤ 16)) by
        have h := HALL.out
        rw [List.take_of_length_le (by rw [HL.out]; exact Nat.le_refl _)] at h
        unfold batB
        rw [h, HL.out]; rfl)
      clear hx
      rcases Nat.lt_or_ge j 1 with h1 | h1
      · obtain rfl : j = 0 := by omega
        go_wp2
        go_returns
        exact ⟨_, rfl, by rw [HE.out]; rfl, HX.out⟩
      · have p1 : (1 : Int) ≤ (j : Int) := by omega
        have p1' : 1 ≤ j := h1
        rcases Nat.lt_or_ge 16 j with h2 | h2
        · have p2 : ¬ (j : Int) ≤ 16 := by omega
          have p2' : ¬ j ≤ 16 := by omega
          go_wp2
          go_returns
          exact ⟨_, rfl, by rw [HE.out, decide_eq_true p1', decide_eq_false p2']; rfl, HX.out⟩
        · have p2 : (j : Int) ≤ 16 := by omega
          have p2' : j ≤ 16 := by omega
          go_wp2
          go_returns
          exact ⟨_, rfl, by rw [HE.out, decide_eq_true p1', decide_eq_true p2']; rfl, HX.out⟩
set_option maxHeartbeats 1600000 in
set_option maxRecDepth 100000 in
theorem rbroken_any (s d : Nat) (keep : Int) (v : Value) (br : Bool) (w : World) (h : Blk w s TSE #[.pointer (some ⟨d, 0, none⟩), .int .i64 keep, v, .bool br]) :
    Calls Try.prog 15 #[.pointer (some ⟨s, 0, none⟩)] w (Ret (fun z _ => z = .bool br) w) := by
  have kd := h.cells
  simp only [cellsAre, Nat.zero_add, Nat.reduceAdd, and_true] at kd
  clear h
  go_enter Try.func15, Try.ntmps15
  go_wp2
  go_returns
  exact ⟨_, rfl, rfl, Below.refl _ _⟩
set_option maxHeartbeats 1600000 in
set_option maxRecDepth 100000 in
theorem rsmade_any (s d : Nat) (keep : Int) (v : Value) (br : Bool) (w : World) (h : Blk w s TSE #[.pointer (some ⟨d, 0, none⟩), .int .i64 keep, v, .bool br]) :
    Calls Try.prog 69 #[.pointer (some ⟨s, 0, none⟩)] w (Ret (fun z _ => z = .bool true) w) := by
  have kd := h.cells
  simp only [cellsAre, Nat.zero_add, Nat.reduceAdd, and_true] at kd
  clear h
  go_enter Try.func69, Try.ntmps69
  go_wp2
  go_returns
  exact ⟨_, rfl, rfl, Below.refl _ _⟩
end Go.Proofs.Tb
