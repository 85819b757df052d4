/- The disk: Arm at any number, Read, Down. -/
import Derived.Test.YtfljnfdeboibhaaSza
set_option linter.unusedVariables false
set_option linter.unusedSimpArgs false
namespace Go.Proofs.Tb
open Go.Maps Go.RowKit Go.Lib
attribute [local go_sem] cell_set_same neqMapL
set_option maxHeartbeats 1600000 in
set_option maxRecDepth 100000 in
theorem rarm_up {F : Nat → Prop} {w : World} {d : Nat} {bl : List (List (List Nat))} {left : Nat} (hw : DW F w d bl false left) (k : Int) (hk : k ≤ 9223372036854775807) :
    Calls Try.prog 28 #[.pointer (some ⟨d, 0, none⟩), .int .i64 k] w fun e w' => (∃ v, e = .returned v) ∧ DW F w' d bl false (max 0 k).toNat ∧ Chg (MF F) w w' := by
  obtain ⟨g, h, hlo, hfp⟩ := hw
  have hd := h.dk
  obtain ⟨m, hm⟩ : ∃ m : Nat, max (0 : Int) k = (m : Int) := ⟨(max 0 k).toNat, by omega⟩
  have hm2 : (max 0 k).toNat = m := by omega
  have hmle : m ≤ 9223372036854775807 := by omega
  rw [hm2]
  have HM := Lib.hid hm
  have HH := Lib.hid h
  have HL := Lib.hid hlo
  have HP := Lib.hid hfp
  have HD := Lib.hid hd
  clear h hlo hfp hd hm hm2
  go_enter Try.func28, Try.ntmps28
  go_wp2_with fail
  refine (rready_any d g.m g.v false left w HD.out).mono ?_
  rintro e w1 ⟨v1, rfl, rfl, b1⟩
  rw [show (if false = true then (9 : Int) else 0) = 0 from rfl]
  have hd1 := HD.out.below b1
  have HH1 := Lib.hid (HH.out.ext b1)
  have k1 := hd1.cells
  simp only [cellsAre, Nat.zero_add, Nat.reduceAdd, and_true] at k1
  have f1 := hd1.free
  have HD1 := Lib.hid hd1
  have X1 := Lib.hid b1
  clear hd1 b1
  go_wp2_with fail
  rw [HM.out]
  have hmf : MF F d (.cells #[g.v, .map (some g.m), .bool false, .int .i64 (left : Int)] TDK (0, 0)) := ⟨HP.out d (Or.inl rfl), Or.inl rfl⟩
  have b2 : Blk (w1.setCell ⟨d, 3, none⟩ (.int .i64 (m : Int))) d TDK #[g.v, .map (some g.m), .bool false, .int .i64 (m : Int)] := HD1.out.set_ 3 _
  have c2 : Chg (MF F) w1 (w1.setCell ⟨d, 3, none⟩ (.int .i64 (m : Int))) := Chg.setB HD1.out hmf 3 _
  have h2 := HH1.out.fields (Chg.setB (X := fun b _ => b = d) HD1.out rfl 3 _) b2 hmle
  go_returns
  refine ⟨⟨_, rfl⟩, ⟨g, h2, HL.out, HP.out⟩, (Chg.ext X1.out).trans c2⟩
set_option maxHeartbeats 1600000 in
set_option maxRecDepth 100000 in
theorem rarm_down {F : Nat → Prop} {w : World} {d : Nat} {bl : List (List (List Nat))} {left : Nat} (hw : DW F w d bl true left) (k : Int) :
    Calls Try.prog 28 #[.pointer (some ⟨d, 0, none⟩), .int .i64 k] w (Ret (fun _ _ => True) w) := by
  obtain ⟨gm, gv, hb⟩ := hw.blk
  have HD := Lib.hid hb
  clear hw hb
  go_enter Try.func28, Try.ntmps28
  go_wp2_with fail
  refine (rready_any d gm gv true left w HD.out).mono ?_
  rintro e w1 ⟨v1, rfl, rfl, b1⟩
  rw [show (if true = true then (9 : Int) else 0) = 9 from rfl]
  go_wp2_with fail
  go_returns
  exact ⟨_, rfl, trivial, b1⟩
end Go.Proofs.Tb
