/- Arguments that are lists of branches. -/
import Derived.Test.YtcjddfhhofoidaaDoorLzd
set_option linter.unusedVariables false
set_option linter.unusedSimpArgs false
namespace Go.Proofs.Tb
open Go.ChangeShapes Go.WideShapes Go.ChangeAt Go.WideElems Go.RowKit

set_option maxRecDepth 100000 in
theorem open_bs {H : Type} {enc : TypeId × Value → H} {W : World} {base fuel : Nat} {spare : Nat → Bool} {held : Bool} {cs : List Value} {x : DataW H × List MemPlace}
    (h : DataW.trod enc Tryd.prog W base spare held fuel TBS cs = some x) : ∃ (A : Option Addr) (n c : Nat) (ts : List Tt), cs = [.slice A n c] ∧ Ts W A n c ts := by
  rcases open_slice_fields Tryd.underlying27 Tryd.underlying52 (by kernel_rfl) (by kernel_rfl) h with h0 | ⟨a, len, cap, hcs, hl, hm, hi⟩
  · exact ⟨none, 0, 0, [], h0, ⟨rfl, Nat.le_refl _, by omega, fun h => absurd h (by omega)⟩⟩
  · have hx : ∀ i, ∃ z : Tt, i < len → (W.cell? (a.add (i * 2)) = some (.int .i64 z.1) ∧ ∃ A' n' c', W.cell? (a.add (i * 2 + 1)) = some (.slice A' n' c') ∧ Il W A' n' c' z.2) := by
      intro i
      by_cases hin : i < len
      · obtain ⟨v, y, n, h1, h2⟩ := hi i hin 0 _ rfl
        obtain ⟨v', y', n', h3, h4⟩ := hi i hin 1 _ rfl
        obtain ⟨z, hz, _⟩ := DataW.trod_int Tryd.underlying3 h2
        have e0 : v = .int .i64 z := by simpa using hz
        subst e0
        obtain ⟨A', n'', c', xs, e1, il⟩ := open_is h4
        have e1 : v' = .slice A' n'' c' := by simpa using e1
        subst e1
        exact ⟨(z, xs), fun _ => ⟨h1, _, _, _, h3, il⟩⟩
      · exact ⟨(0, []), fun h => absurd h hin⟩
    obtain ⟨f, hf⟩ := Classical.axiomOfChoice hx
    have hget : ∀ j, j < len → ((List.range len).map f).getD j (0, []) = f j := fun j hj => by simp [List.getD, hj]
    refine ⟨some a, len, cap, (List.range len).map f, hcs, ⟨by simp, hl, by simpa [maxLen] using hm, fun h0 => ?_⟩⟩
    obtain ⟨bb, off, spot⟩ := a
    have hs0 := (hf 0 h0).1
    rw [Nat.zero_mul] at hs0
    have hspot : spot = none := by simpa [Addr.add] using World.cell?_spot hs0
    subst hspot
    have hadd : ∀ j, (⟨bb, off, none⟩ : Addr).add j = ⟨bb, off + j, none⟩ := fun j => by simp only [Addr.add]; split <;> simp_all
    refine ⟨bb, off, rfl, fun j hj => ?_⟩
    have h1 := hf j hj
    rw [hadd, hadd] at h1
    unfold tC tS
    rw [hget j hj]
    exact h1
set_option maxRecDepth 100000 in
theorem open_bsv {H : Type} {enc : TypeId × Value → H} {W : World} {b0 base : Nat} {r : Reach} {spare : Nat → Bool} {held : Bool} {v : Value} {d : DataW H} {p : List MemPlace}
    (hv : Value.okWide Tryd.prog W r b0 TBS v) (h : DataW.Trod enc Tryd.prog W base spare held TBS v d p) : ∃ (A : Option Addr) (n c : Nat) (bs : List Tt), v = .slice A n c ∧ Ts W A n c bs := by
  obtain ⟨A, n, c, rfl⟩ := okWide_slice Tryd.underlying27 hv
  obtain ⟨fuel, hf⟩ := h
  obtain ⟨A', n', c', xs, e, il⟩ := open_bs hf
  simp [Value.cells] at e
  obtain ⟨rfl, rfl, rfl⟩ := e
  exact ⟨_, _, _, xs, rfl, il⟩
end Go.Proofs.Tb
