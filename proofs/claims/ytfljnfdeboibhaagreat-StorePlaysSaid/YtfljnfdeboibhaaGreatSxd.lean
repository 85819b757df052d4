/- StoreKept: the walk. -/
import Derived.Test.YtfljnfdeboibhaaGreatTwf
set_option linter.unusedVariables false
set_option linter.unusedSimpArgs false
namespace Go.Proofs.Tb
open Go.Maps Go.RowKit Go.Lib
attribute [local go_sem] cell_set_same neqMapL
theorem and7 (y : Int) : ∃ b : Nat, b ≤ 7 ∧ bits .and .i64 y 7 = (b : Int) := by
  have e : bits .and .i64 y 7 = IntKind.i64.wrap ((BitVec.ofInt 64 y &&& BitVec.ofInt 64 7).toNat : Int) := rfl
  have h : (BitVec.ofInt 64 y &&& BitVec.ofInt 64 7).toNat ≤ 7 := by
    rw [BitVec.toNat_and]
    exact Nat.and_le_right
  refine ⟨_, h, ?_⟩
  rw [e, IntWalk.i64_in _ (by omega)]
/-- Range of all pairs, at a version that is kept. -/
theorem st_range_ok {F : Nat → Prop} {w : World} {s d keep n : Nat} {Vs : List (List Pr)} (h : STx F w s d keep n Vs) (hV : Vs.length ≤ 100000) {v : Nat} (hv : v < Vs.length) (hk : Vs.length - 1 - v ≤ keep) (hz : (Vs.getD v []).length ≤ 1000) :
    Calls Tryz.prog 31 #[.pointer (some ⟨s, 0, none⟩), .int .i64 (v : Int), .string ⟨#[]⟩, .string ⟨#[]⟩, .int .i64 1000] w (Ret (fun z w' => ∃ z', z = ansR z' 0 ∧ OwP w.heap.size w' z' (Vs.getD v [])) w) := by
  obtain ⟨vs, B, bl, h1, h2, h3, h4⟩ := h
  have hlen := h2.len
  have hi : Vs.length - 1 - v < vs.length := by omega
  obtain ⟨t, ht1, ht2, _⟩ := h2.at_ _ hi
  have hu : (vs[Vs.length - 1 - v]).2 = t := by
    rw [List.getElem?_eq_getElem hi] at ht1
    injection ht1 with ht1
    rw [ht1]
  have ho := (h2.okAt hi).1
  rw [show Vs.length - 1 - (Vs.length - 1 - v) = v by omega] at ht2 ho
  have hts : t.er.size = (Vs.getD v []).length := by rw [← ht2, Tr.size_prs]
  have := callsIn_wide.1 (rrange_in h1.sr h2.vsn (by omega) hi (v := (v : Int)) (by omega) hu (by rw [ht2]; exact ho) (by omega) ⟨#[]⟩ ⟨#[]⟩ 1000 (by omega) (by decide))
  rw [ht2, rngP_all hz] at this
  exact this
theorem st_range_old {F : Nat → Prop} {w : World} {s d keep n : Nat} {Vs : List (List Pr)} (h : STx F w s d keep n Vs) (hV : Vs.length ≤ 100000) {v : Nat} (hv : v < Vs.length - 1 - keep) :
    Calls Tryz.prog 31 #[.pointer (some ⟨s, 0, none⟩), .int .i64 (v : Int), .string ⟨#[]⟩, .string ⟨#[]⟩, .int .i64 1000] w (Ret (fun z _ => z = ansR (.slice none 0 0) 10) w) := by
  obtain ⟨vs, B, bl, h1, h2, h3, h4⟩ := h
  have hlen := h2.len
  have he : verB (Vs.length - 1) vs.length (v : Int) = 10 := by
    unfold verB
    rw [if_neg (by omega), if_pos (by omega)]
  exact rrange_err h1.sr h2.vsn (by omega) (v : Int) 10 he (by decide) ⟨#[]⟩ ⟨#[]⟩ 1000
end Go.Proofs.Tb
