/- Contracts of package gear: size, gcd. (With what follows it, in one text.) -/
import Derived.Test.YthcialpcefhnnaaRate1
import Derived.Test.YthcialpcefhnnaaRef2
import Derived.Test.YthcialpcefhnnaaRef3
import Derived.Test.YthcialpcefhnnaaLaw1
import Derived.Test.YthcialpcefhnnaaRate3
set_option linter.unusedVariables false
set_option linter.unusedSimpArgs false
/- Contracts of package gear: size, gcd. -/
namespace Go.Proofs.Tb
open Go.RowKit
attribute [local go_sem] cell_set_same

theorem ret_u64 {a b : Int} (h : a = b) : Ending.returned (.int .u64 a) = .returned (.int .u64 b) := by rw [h]
end Go.Proofs.Tb
/- Contracts of package gear: valid (of one fraction), Check. -/
namespace Go.Proofs.Tb
open Go.RowKit
attribute [local go_sem] cell_set_same
/-- What Check returns. -/
def ckI (n d : Int) : Int := if VF n d then 0 else 2
theorem ckI_t {n d : Int} (h : VF n d) : ckI n d = 0 := if_pos h
theorem ckI_f {n d : Int} (h : ¬ VF n d) : ckI n d = 2 := if_neg h
end Go.Proofs.Tb
/- Contract of package rate: Slope. -/
namespace Go.Proofs.Tb
open Go.RowKit
attribute [local go_sem] cell_set_same

/-- May the slope be asked? -/
def SlOk (rs : List Rdg) (i j : Int) : Prop := Vld rs ∧ 0 ≤ i ∧ i < rs.length ∧ 0 ≤ j ∧ j < rs.length ∧ i ≠ j
/-- What Slope returns. -/
def SlopeR (rs : List Rdg) (i j : Int) (v : Value) : Prop :=
  (SlOk rs i j → FracQ (slQ rs i.toNat j.toNat) v) ∧ (¬ SlOk rs i j → v = .tuple #[.agg #[.int .i64 0, .int .i64 0], .int .i64 1])
theorem SlopeR.bad {rs : List Rdg} {i j : Int} (h : ¬ SlOk rs i j) : SlopeR rs i j (.tuple #[.agg #[.int .i64 0, .int .i64 0], .int .i64 1]) := ⟨fun h' => absurd h' h, fun _ => rfl⟩
/-- What between returns, as numbers. -/
theorem between_q {rs : List Rdg} (hv : Vld rs) {I J : Nat} (hi : I < rs.length) (hj : J < rs.length) (hne : I ≠ J) :
    ∃ sn sd : Int, (if tm rs J < tm rs I then Value.agg #[.int .i64 (ofs rs I - ofs rs J), .int .i64 (tm rs I - tm rs J)] else .agg #[.int .i64 (ofs rs J - ofs rs I), .int .i64 (tm rs J - tm rs I)]) = .agg #[.int .i64 sn, .int .i64 sd] ∧
      -2000000 ≤ sn ∧ sn ≤ 2000000 ∧ 0 < sd ∧ sd ≤ 2000000 ∧ qv sn sd = slQ rs I J := by
  have b1 := hv.tm_bd hi
  have b2 := hv.tm_bd hj
  by_cases h : tm rs J < tm rs I
  · refine ⟨_, _, if_pos h, by omega, by omega, by omega, by omega, ?_⟩
    rw [slQ_comm]
    exact slQ_qv (by omega)
  · have hd := hv.tm_ne hi hj hne
    exact ⟨_, _, if_neg h, by omega, by omega, by omega, by omega, slQ_qv hd⟩

end Go.Proofs.Tb
/- Contract of package rate: Worst. -/
namespace Go.Proofs.Tb
open Go.RowKit
attribute [local go_sem] cell_set_same

/-- May Worst be asked? -/
def WoOk (rs : List Rdg) (a b c d : Int) : Prop := Vld rs ∧ VF a b ∧ VF c d
/-- What Worst returns. -/
def WorstR (rs : List Rdg) (a b c d : Int) (v : Value) : Prop :=
  (WoOk rs a b c d → FracQ (wsT rs (qv a b) (qv c d) rs.length) v) ∧ (¬ WoOk rs a b c d → v = .tuple #[.agg #[.int .i64 0, .int .i64 0], .int .i64 1])
theorem WorstR.bad {rs : List Rdg} {a b c d : Int} (h : ¬ WoOk rs a b c d) : WorstR rs a b c d (.tuple #[.agg #[.int .i64 0, .int .i64 0], .int .i64 1]) := ⟨fun h' => absurd h' h, fun _ => rfl⟩

theorem FracQ.form3 {x : Rat} {v : Value} (h : FracQ x v) : ∃ a b e : Int, v = .tuple #[.agg #[.int .i64 a, .int .i64 b], .int .i64 e] := by
  by_cases hf : fitQ x
  · exact ⟨_, _, _, h.1 hf⟩
  · exact ⟨_, _, _, h.2 hf⟩
end Go.Proofs.Tb
