/- Contract of package rate: Witnesses. Integers in memory. -/
import Derived.Test.YthcialpcefhnnaaRate3
set_option linter.unusedVariables false
set_option linter.unusedSimpArgs false
namespace Go.Proofs.Tb
open Go.RowKit
attribute [local go_sem] cell_set_same

/-- The slice '.slice A n c' reads as the integers xs. -/
structure Il (w : World) (A : Option Addr) (n c : Nat) (xs : List Int) : Prop where
  len : xs.length = n
  le : n ≤ c
  cap : c ≤ 9223372036854775807
  at_ : 0 < n → ∃ b o, A = some ⟨b, o, none⟩ ∧ ∀ j, j < n → w.cell? ⟨b, o + j, none⟩ = some (.int .i64 (xs.getD j 0))
theorem Il.below {w w' : World} {A : Option Addr} {n c : Nat} {xs : List Int} (h : Il w A n c xs) (hb : Below w.heap.size w w') : Il w' A n c xs := by
  refine ⟨h.len, h.le, h.cap, fun hn => ?_⟩
  obtain ⟨b, o, hA, hc⟩ := h.at_ hn
  refine ⟨b, o, hA, fun j hj => ?_⟩
  have h1 := hc j hj
  exact (hb.cell (p := ⟨b, o + j, none⟩) (World.block_lt_of_cell? w _ h1)).trans h1
theorem Il.nil (w : World) : Il w none 0 0 [] := ⟨rfl, Nat.le_refl _, by omega, fun h => absurd h (by omega)⟩
/-- What Witnesses returns. -/
def WitR (rs : List Rdg) (v : Value) (w : World) : Prop :=
  (¬ Vld rs → v = .tuple #[.slice none 0 0, .int .i64 1]) ∧
  (Vld rs → ∃ (a b c : Nat) (off run : Int), Gr rs a b c off run ∧ (off = 0 → v = .tuple #[.slice none 0 0, .int .i64 0]) ∧
    (off ≠ 0 → ∃ A cc, v = .tuple #[.slice A 3 cc, .int .i64 0] ∧ Il w A 3 cc [(a : Int), (b : Int), (c : Int)]))

set_option maxHeartbeats 1600000 in
theorem rwit_any (A : Option Addr) (n c : Nat) (rs : List Rdg) (w : World) (h : Rd w A n c rs) :
    Calls Try.prog 6 #[.slice A n c] w (Ret (WitR rs) w) := by
  have H := Lib.hid h
  clear h
  go_enter Try.func6, Try.ntmps6
  go_wp2_with fail
  refine (rvalid_any _ _ _ rs _ H.out).mono ?_
  rintro e w1 ⟨v1, rfl, rfl, hb1⟩
  by_cases hv : Vld rs
  · rw [vld_true hv]
    have HV := Lib.hid hv
    have HB1 := Lib.hid hb1
    clear hv hb1
    go_wp2_with fail
    refine (rgreatest_any _ _ _ rs _ (H.out.below HB1.out) HV.out).mono ?_
    rintro e w2 ⟨v2, rfl, ⟨a, b, c', off, run, rfl, hg⟩, hb2⟩
    have HG := Lib.hid hg
    have HB2 := Lib.hid (bt HB1.out hb2)
    clear hg hb2
    go_upto_region 4 with fail
    refine wp_world (fun W => Blk W w2.heap.size T3 #[.int .i64 a, .int .i64 b, .int .i64 c'] ∧ Blk W (w2.heap.size + 1) TBD #[.int .i64 off, .int .i64 run] ∧ Below w2.heap.size w2 W) (by exact ⟨(Blk.new_ _ _ rfl).alloc _, Blk.new_ _ _ (by simp), by go_grown⟩) ?_
    rintro W3 ⟨e4, e5, hb3⟩
    have k4 := e4.cells
    have k5 := e5.cells
    simp only [cellsAre, Nat.zero_add, Nat.reduceAdd, and_true] at k4 k5
    have HB3 := Lib.hid (bt HB2.out hb3)
    clear e4 e5 hb3
    by_cases ho : off = 0
    · subst ho
      go_wp2
      go_ret2
      exact ⟨_, rfl, ⟨fun hno => absurd HV.out hno, fun _ => ⟨a, b, c', 0, run, HG.out, fun _ => rfl, fun h => absurd rfl h⟩⟩, HB3.out⟩
    · have g1 : (off == 0) = false := by simpa using ho
      have HO := Lib.hid ho
      clear ho
      go_wp2
      go_ret2
      exact ⟨_, rfl, ⟨fun hno => absurd HV.out hno, fun _ => ⟨a, b, c', off, run, HG.out, fun h => absurd h HO.out, fun _ => ⟨_, _, rfl, ⟨rfl, by omega, by omega, fun _ => ⟨_, _, rfl, fun j hj => by
        have : j = 0 ∨ j = 1 ∨ j = 2 := by omega
        rcases this with rfl | rfl | rfl
        · exact k4.1
        · exact k4.2.1
        · exact k4.2.2⟩⟩⟩⟩⟩, HB3.out⟩
  · rw [vld_false hv]
    have HV := Lib.hid hv
    clear hv
    go_wp2
    go_ret2
    exact ⟨_, rfl, ⟨fun _ => rfl, fun h => absurd h HV.out⟩, hb1⟩
end Go.Proofs.Tb
