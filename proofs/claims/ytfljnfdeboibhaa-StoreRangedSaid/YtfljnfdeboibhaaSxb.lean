/- Arguments that are lists of changes and of ops. -/
import Derived.Test.YtfljnfdeboibhaaSwp
set_option linter.unusedVariables false
set_option linter.unusedSimpArgs false
namespace Go.Proofs.Tb
open Go.ChangeShapes Go.WideShapes Go.ChangeAt Go.RowKit Go.Deep
abbrev TOS : TypeId := 22
set_option maxRecDepth 100000 in
/-- Changes. -/
theorem open_cgs {H : Type} {enc : TypeId × Value → H} {W : World} {base fuel : Nat} {spare : Nat → Bool} {held : Bool} {cs : List Value} {x : DataW H × List MemPlace}
    (h : DataW.trod enc Try.prog W base spare held fuel TCS cs = some x) : ∃ (A : Option Addr) (n c : Nat) (ys : List Cg), cs = [.slice A n c] ∧ Rv W 3 A n c (ccs ys) ∧ ∀ x ∈ ys, x.k.size ≤ 9223372036854775807 ∧ x.v.size ≤ 9223372036854775807 := by
  rcases open_slice_fields Try.underlying23 Try.underlying37 (by kernel_rfl) (by kernel_rfl) h with h0 | ⟨a, len, cap, hcs, hl, hm, hi⟩
  · exact ⟨none, 0, 0, [], h0, Rv.nil _ _, fun x hx => absurd hx (by simp)⟩
  · have hx : ∀ i, ∃ z : Cg, (i < len → (W.cell? (a.add (i * 3)) = some (.string z.k) ∧ W.cell? (a.add (i * 3 + 1)) = some (.string z.v) ∧ W.cell? (a.add (i * 3 + 2)) = some (.bool z.gone))) ∧ z.k.size ≤ 9223372036854775807 ∧ z.v.size ≤ 9223372036854775807 := by
      intro i
      by_cases hin : i < len
      · obtain ⟨v, y, n, h1, h2⟩ := hi i hin 0 _ rfl
        obtain ⟨v', y', n', h3, h4⟩ := hi i hin 1 _ rfl
        obtain ⟨v2, y2, n2, h5, h6⟩ := hi i hin 2 _ rfl
        obtain ⟨sk, hz, _, hs1⟩ := DataW.trod_string Try.underlying9 h2
        have e0 : v = .string sk := by simpa using hz
        subst e0
        obtain ⟨sv, hz', _, hs2⟩ := DataW.trod_string Try.underlying9 h4
        have e1 : v' = .string sv := by simpa using hz'
        subst e1
        obtain ⟨bg, hz2, _⟩ := DataW.trod_bool Try.underlying4 h6
        have e2 : v2 = .bool bg := by simpa using hz2
        subst e2
        exact ⟨⟨sk, sv, bg⟩, fun _ => ⟨h1, h3, h5⟩, by simpa [maxLen] using hs1, by simpa [maxLen] using hs2⟩
      · exact ⟨⟨ByteArray.empty, ByteArray.empty, false⟩, fun h => absurd h hin, by decide, by decide⟩
    obtain ⟨f, hf⟩ := Classical.axiomOfChoice hx
    refine ⟨some a, len, cap, (List.range len).map f, hcs, ⟨by rw [ccs_len]; simp, hl, by simpa [maxLen] using hm, fun h0 => ?_⟩, fun x hx => ?_⟩
    · obtain ⟨bb, off, spot⟩ := a
      have hs0 := ((hf 0).1 h0).1
      rw [Nat.zero_mul] at hs0
      have hspot : spot = none := by simpa [Addr.add] using World.cell?_spot hs0
      subst hspot
      have hadd : ∀ j, (⟨bb, off, none⟩ : Addr).add j = ⟨bb, off + j, none⟩ := fun j => by simp only [Addr.add]; split <;> simp_all
      refine ⟨bb, off, rfl, fun j u hj => ?_⟩
      have hjl : j < len * 3 := by
        have := (List.getElem?_eq_some_iff.1 hj).1
        rw [ccs_len] at this
        simpa using this
      have hq : j / 3 < len := by omega
      obtain ⟨c0, c1, c2⟩ := (hf (j / 3)).1 hq
      rw [hadd] at c0 c1 c2
      obtain ⟨g0, g1, g2⟩ := ccs_at ((List.range len).map f) (j / 3) (by simpa using hq)
      have ef : ((List.range len).map f)[j / 3]'(by simpa using hq) = f (j / 3) := by simp
      rw [ef] at g0 g1 g2
      rcases (show j = j / 3 * 3 ∨ j = j / 3 * 3 + 1 ∨ j = j / 3 * 3 + 2 by omega) with e | e | e
      · rw [e] at hj ⊢
        rw [g0] at hj
        injection hj with hj
        rw [← hj]
        exact c0
      · rw [e] at hj ⊢
        rw [g1] at hj
        injection hj with hj
        rw [← hj]
        exact c1
      · rw [e] at hj ⊢
        rw [g2] at hj
        injection hj with hj
        rw [← hj]
        exact c2
    · obtain ⟨i, _, rfl⟩ := List.mem_map.1 hx
      exact (hf i).2
set_option maxRecDepth 100000 in
theorem open_cgsv {H : Type} {enc : TypeId × Value → H} {W : World} {b0 base : Nat} {r : Reach} {spare : Nat → Bool} {held : Bool} {v : Value} {d : DataW H} {p : List MemPlace}
    (hv : Value.okWide Try.prog W r b0 TCS v) (h : DataW.Trod enc Try.prog W base spare held TCS v d p) : ∃ (A : Option Addr) (n c : Nat) (ys : List Cg), v = .slice A n c ∧ Rv W 3 A n c (ccs ys) ∧ ∀ x ∈ ys, x.k.size ≤ 9223372036854775807 ∧ x.v.size ≤ 9223372036854775807 := by
  obtain ⟨A, n, c, rfl⟩ := okWide_slice Try.underlying23 hv
  obtain ⟨fuel, hf⟩ := h
  obtain ⟨A', n', c', xs, e, il⟩ := open_cgs hf
  simp [Value.cells] at e
  obtain ⟨rfl, rfl, rfl⟩ := e
  exact ⟨_, _, _, xs, rfl, il⟩
set_option maxRecDepth 100000 in
theorem open_opsv {H : Type} {enc : TypeId × Value → H} {W : World} {b0 base : Nat} {r : Reach} {spare : Nat → Bool} {held : Bool} {v : Value} {d : DataW H} {p : List MemPlace}
    (hv : Value.okWide Try.prog W r b0 TOS v) (h : DataW.Trod enc Try.prog W base spare held TOS v d p) : ∃ (A : Option Addr) (n c : Nat), v = .slice A n c ∧ OpX W A n c := by
  obtain ⟨A, n, c, rfl⟩ := okWide_slice Try.underlying22 hv
  obtain ⟨fuel, hf⟩ := h
  rcases open_slice_fields Try.underlying22 Try.underlying46 (by kernel_rfl) (by kernel_rfl) hf with h0 | ⟨a, len, cap, hcs, hl, hm, hi⟩
  · simp [Value.cells] at h0
    obtain ⟨rfl, rfl, rfl⟩ := h0
    exact ⟨none, 0, 0, rfl, ⟨Nat.le_refl _, by omega, fun j hj => absurd hj (by omega)⟩⟩
  · simp [Value.cells] at hcs
    obtain ⟨rfl, rfl, rfl⟩ := hcs
    refine ⟨some a, n, c, rfl, ⟨hl, by simpa [maxLen] using hm, fun j hj => ?_⟩⟩
    obtain ⟨v3, y3, n3, h1, h2⟩ := hi j hj 3 _ rfl
    obtain ⟨A', n', c', ys, e, hr, hs⟩ := open_cgs h2
    have e3 : v3 = .slice A' n' c' := by simpa using e
    subst e3
    obtain ⟨bb, off, spot⟩ := a
    have hspot : spot = none := by
      obtain ⟨vz, yz, nz, hz, _⟩ := hi 0 (by omega) 0 _ rfl
      have hz' : W.cell? ((⟨bb, off, spot⟩ : Addr).add 0) = some vz := by rw [← hz]; simp
      simpa [Addr.add] using World.cell?_spot hz'
    subst hspot
    have hadd : ∀ j, (⟨bb, off, none⟩ : Addr).add j = ⟨bb, off + j, none⟩ := fun j => by simp only [Addr.add]; split <;> simp_all
    refine ⟨bb, off, rfl, A', n', c', ys, ?_, hr, hs⟩
    have h1' : W.cell? ((⟨bb, off, none⟩ : Addr).add (j * 4 + 3)) = some (.slice A' n' c') := h1
    rw [hadd, ← Nat.add_assoc] at h1'
    exact h1'
end Go.Proofs.Tb
