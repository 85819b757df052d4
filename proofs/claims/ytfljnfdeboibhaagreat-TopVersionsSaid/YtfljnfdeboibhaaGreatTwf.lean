/- StoreOpens: the walk. (With what follows it, in one text.) -/
import Derived.Test.YtfljnfdeboibhaaGreatTwe
set_option linter.unusedVariables false
set_option linter.unusedSimpArgs false
/- StoreOpens: the walk. -/
namespace Go.Proofs.Tb
open Go.Maps Go.RowKit Go.Lib
attribute [local go_sem] cell_set_same neqMapL
theorem and1023 (y : Int) : ∃ b : Nat, b ≤ 1023 ∧ bits .and .i64 y 1023 = (b : Int) := by
  have e : bits .and .i64 y 1023 = IntKind.i64.wrap ((BitVec.ofInt 64 y &&& BitVec.ofInt 64 1023).toNat : Int) := rfl
  have h : (BitVec.ofInt 64 y &&& BitVec.ofInt 64 1023).toNat ≤ 1023 := by
    rw [BitVec.toNat_and]
    exact Nat.and_le_right
  refine ⟨_, h, ?_⟩
  rw [e, IntWalk.i64_in _ (by omega)]
set_option maxHeartbeats 1600000 in
set_option maxRecDepth 100000 in
theorem rarm1_any {F : Nat → Prop} {w : World} {d : Nat} {bl : List (List (List Nat))} {left : Nat} (hw : DW F w d bl false left) :
    Calls Tryz.prog 25 #[.pointer (some ⟨d, 0, none⟩), .int .i64 1] w fun e w' => (∃ v, e = .returned v) ∧ DW F w' d bl false 1 ∧ Chg (MF F) w w' := by
  obtain ⟨g, h, hlo, hfp⟩ := hw
  have hd := h.dk
  have HH := Lib.hid h
  have HL := Lib.hid hlo
  have HP := Lib.hid hfp
  have HD := Lib.hid hd
  clear h hlo hfp hd
  go_enter Tryz.func25, Tryz.ntmps25
  go_wp2_with fail
  refine (rready_any d g.m g.v false left w HD.out).mono ?_
  rintro e w1 ⟨v1, rfl, rfl, b1⟩
  rw [show (if false = true then (9 : Int) else 0) = 0 from rfl]
  have hd1 := HD.out.below b1
  have HH1 := Lib.hid (HH.out.ext b1)
  have k1 := hd1.cells
  simp only [cellsAre, Nat.zero_add, Nat.reduceAdd, and_true] at k1
  have f1 := hd1.free
  have HD1 := Lib.hid hd1
  have X1 := Lib.hid b1
  clear hd1 b1
  go_wp2_with fail
  have hm : max (0 : Int) 1 = ((1 : Nat) : Int) := by omega
  rw [hm]
  have hmf : MF F d (.cells #[g.v, .map (some g.m), .bool false, .int .i64 (left : Int)] TDK (0, 0)) := ⟨HP.out d (Or.inl rfl), Or.inl rfl⟩
  have b2 : Blk (w1.setCell ⟨d, 3, none⟩ (.int .i64 ((1 : Nat) : Int))) d TDK #[g.v, .map (some g.m), .bool false, .int .i64 ((1 : Nat) : Int)] := HD1.out.set_ 3 _
  have c2 : Chg (MF F) w1 (w1.setCell ⟨d, 3, none⟩ (.int .i64 ((1 : Nat) : Int))) := Chg.setB HD1.out hmf 3 _
  have h2 := HH1.out.fields (Chg.setB (X := fun b _ => b = d) HD1.out rfl 3 _) b2 (by omega)
  go_returns
  refine ⟨⟨_, rfl⟩, ⟨g, h2, HL.out, HP.out⟩, (Chg.ext X1.out).trans c2⟩
end Go.Proofs.Tb
/- StoreOpens: the walk. -/
namespace Go.Proofs.Tb
open Go.Maps Go.RowKit Go.Lib
attribute [local go_sem] cell_set_same neqMapL
/-- What follows Open in StoreOpens: nothing and a disk of zeros are refused. -/
theorem DW.blk {F : Nat → Prop} {w : World} {d : Nat} {bl : List (List (List Nat))} {down : Bool} {left : Nat} (h : DW F w d bl down left) : ∃ g v, Blk w d TDK #[v, .map (some g), .bool down, .int .i64 (left : Int)] := by
  obtain ⟨g, h1, _, _⟩ := h
  exact ⟨g.m, g.v, h1.dk⟩
theorem st_newest {F : Nat → Prop} {w : World} {s d keep n : Nat} {Vs : List (List Pr)} (h : STx F w s d keep n Vs) :
    Calls Tryz.prog 46 #[.pointer (some ⟨s, 0, none⟩)] w (Ret (fun v _ => v = .int .i64 ((Vs.length - 1 : Nat) : Int)) w) := by
  obtain ⟨vs, B, bl, h1, h2, h3, h4⟩ := h
  obtain ⟨t0, hf⟩ := h2.vsn.first
  exact rnewest_any h1.sr hf
theorem st_oldest {F : Nat → Prop} {w : World} {s d keep n : Nat} {Vs : List (List Pr)} (h : STx F w s d keep n Vs) :
    Calls Tryz.prog 47 #[.pointer (some ⟨s, 0, none⟩)] w (Ret (fun v _ => v = .int .i64 ((Vs.length - 1 - keep : Nat) : Int)) w) := by
  obtain ⟨vs, B, bl, h1, h2, h3, h4⟩ := h
  obtain ⟨t1, hl⟩ := h2.vsn.last
  have hlen := h2.len
  have hp : 0 < Vs.length := List.length_pos_iff.2 h2.nv
  rw [show Vs.length - 1 - (vs.length - 1) = Vs.length - 1 - keep by omega] at hl
  exact roldest_any h1.sr h2.pos hl
theorem st_broken {F : Nat → Prop} {w : World} {s d keep n : Nat} {Vs : List (List Pr)} (h : STx F w s d keep n Vs) :
    Calls Tryz.prog 17 #[.pointer (some ⟨s, 0, none⟩)] w (Ret (fun v _ => v = .bool false) w) := by
  obtain ⟨vs, B, bl, h1, h2, h3, h4⟩ := h
  obtain ⟨A, m, c, hs, _⟩ := h1.se
  exact rbroken_any s d _ _ false w hs
theorem noOp_blk {w : World} {d : Nat} {v : Value} {g : Nat} {down : Bool} {left : Nat} (h : Blk w d TDK #[v, .map (some g), .bool down, .int .i64 (left : Int)]) (keep : Int) (e : Int) (he : (keep < 0 ∨ 8 < keep) ∧ e = 1 ∨ (¬ keep < 0 ∧ ¬ 8 < keep) ∧ down = true ∧ e = 9) :
    Calls Tryz.prog 16 #[.pointer (some ⟨d, 0, none⟩), .int .i64 keep] w (Ret (fun z _ => z = noOp e) w) := by
  rcases he with ⟨h1, rfl⟩ | ⟨⟨h1, h2⟩, rfl, rfl⟩
  · exact ropen_arg keep g v h h1
  · exact ropen_down keep g v h h1 h2
end Go.Proofs.Tb
