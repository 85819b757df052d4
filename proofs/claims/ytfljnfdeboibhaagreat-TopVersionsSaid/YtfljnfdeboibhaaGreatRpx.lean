/- Facts of the reopening chain that TopVersions needs (the same as in Rop, Roq and Ros, without their walks). -/
import Derived.Test.YtfljnfdeboibhaaGreatRok
set_option linter.unusedVariables false
set_option linter.unusedSimpArgs false
namespace Go.Proofs.Tb
open Go.Maps Go.RowKit Go.Lib
attribute [local go_sem] cell_set_same neqMapL

theorem SI.old {F : Nat → Prop} {w : World} {s d keep : Nat} {vs : List (Nat × MT)} {B : Nat → Nat} {br : Bool} {bl : List (List (List Nat))} {down : Bool} {left : Nat} (h : SI F w s d keep vs B br bl down left) : SI (fun b => F b ∧ b < w.heap.size) w s d keep vs B br bl down left := by
  obtain ⟨A, m, c, g1, g2⟩ := h.se
  obtain ⟨g, h1, h2, h3⟩ := h.dk
  exact ⟨⟨A, m, c, g1, g2⟩, ⟨g, h1, h2, fun b hb => ⟨h3 b hb, by
    obtain ⟨o, ho, _⟩ := h1.fp_lt (by rw [List.length_map]; exact hb)
    exact obj_lt ho⟩⟩, ⟨h.fs, g1.lt⟩, h.tr, h.bz, h.bm⟩
theorem SI.apart {F G : Nat → Prop} {w w' : World} {s d keep : Nat} {vs : List (Nat × MT)} {B : Nat → Nat} {br : Bool} {bl : List (List (List Nat))} {down : Bool} {left : Nat} (h : SI F w s d keep vs B br bl down left) (hc : Chg (MF G) w w') (hd : ∀ b, F b → ¬ G b) : SI F w' s d keep vs B br bl down left :=
  h.chg hc (fun b o hb _ hX => hd b hb hX.1) MF.u8 MF.no MF.ve
theorem STl.old {F : Nat → Prop} {w : World} {s d keep n left : Nat} {Vs : List (List Pr)} (h : STl F w s d keep n Vs left) : STl (fun b => F b ∧ b < w.heap.size) w s d keep n Vs left := by
  obtain ⟨vs, B, bl, h1, h2⟩ := h
  exact ⟨vs, B, bl, h1.old, h2⟩
theorem STl.apart {F G : Nat → Prop} {w w' : World} {s d keep n left : Nat} {Vs : List (List Pr)} (h : STl F w s d keep n Vs left) (hc : Chg (MF G) w w') (hd : ∀ b, F b → ¬ G b) : STl F w' s d keep n Vs left := by
  obtain ⟨vs, B, bl, h1, h2⟩ := h
  exact ⟨vs, B, bl, h1.apart hc hd, h2⟩
theorem and15 (y : Int) : ∃ b : Nat, b ≤ 15 ∧ bits .and .i64 y 15 = (b : Int) := by
  have e : bits .and .i64 y 15 = IntKind.i64.wrap ((BitVec.ofInt 64 y &&& BitVec.ofInt 64 15).toNat : Int) := rfl
  have h : (BitVec.ofInt 64 y &&& BitVec.ofInt 64 15).toNat ≤ 15 := by
    rw [BitVec.toNat_and]
    exact Nat.and_le_right
  refine ⟨_, h, ?_⟩
  rw [e, IntWalk.i64_in _ (by omega)]
/-- A disk that a store was seen on. -/
def DkS (F : Nat → Prop) (w : World) (d keep n : Nat) (Vs : List (List Pr)) : Prop := ∃ bl, DW F w d bl false 0 ∧ Sdd (lastsB bl) keep Vs ∧ (∀ k, (bl.getD k []).length ≤ 1) ∧ bl.length = n
theorem DkS.ext {F : Nat → Prop} {w w' : World} {d keep n : Nat} {Vs : List (List Pr)} (h : DkS F w d keep n Vs) (x : Ext w w') : DkS F w' d keep n Vs := by
  obtain ⟨bl, h1, h2⟩ := h
  exact ⟨bl, h1.ext x, h2⟩
theorem dks_open {F : Nat → Prop} {w : World} {d keep n : Nat} {Vs : List (List Pr)} (h : DkS F w d keep n Vs) (hF : ∀ b, w.heap.size ≤ b → F b) (hk : keep ≤ 8) (hV : Vs.length ≤ 100000) (hVl : ∀ l ∈ Vs, l.length ≤ 10000) (ka : Nat) (hka : ka ≤ 8) :
    Calls Tryz.prog 16 #[.pointer (some ⟨d, 0, none⟩), .int .i64 (ka : Int)] w (Ret (fun z w' => ∃ s, z = .tuple #[.pointer (some ⟨s, 0, none⟩), .int .i64 0] ∧ STl F w' s d keep n Vs 0) w) := by
  obtain ⟨bl, h1, h2, h3, h4⟩ := h
  exact ropen_at h1 hF h2 h3 h4 hk hV hVl ka hka
end Go.Proofs.Tb
