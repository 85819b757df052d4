/- Contracts of package wide, first part: what the functions on sizes (lists of limbs) return, for all sizes that are small enough to be made. -/
import Derived.Test.YtcbffkkcldnegaaProg
import Derived.Test.YtcbffkkcldnegaaBase
import Derived.Test.YtcbffkkcldnegaaDig
set_option linter.unusedVariables false
set_option linter.unusedSimpArgs false
namespace Go.Proofs.Tb
open Go.RowKit
attribute [local go_sem] cell_set_same

/-- The element type of sizes. -/
abbrev TU : TypeId := 128
/-- The base of the limbs. -/
def B32 : Nat := 4294967296
theorem two_B32 : 2 ≤ B32 := by unfold B32; omega
def U32 (x : Nat) : Value := .int .u32 (x : Int)
/-- The limbs of m, as values. -/
def L (m : Nat) : List Value := (digs B32 m).map U32
theorem map_getD (f : Nat → Value) (xs : List Nat) (j : Nat) (h : j < xs.length) : (xs.map f).getD j undef = f (xs.getD j 0) := by
  simp [List.getD, h]
theorem Sl.at_u32 {w : World} {A : Option Addr} {n c : Nat} {xs : List Nat} (h : Sl TU w A n c (xs.map U32)) (h0 : 0 < n) :
    ∃ b o, A = some ⟨b, o, none⟩ ∧ ∀ j, j < n → w.cell? ⟨b, o + j, none⟩ = some (.int .u32 ((xs.getD j 0 : Nat) : Int)) := by
  obtain ⟨b, o, hA, _, hc⟩ := h.at_ h0
  have hl := h.len
  refine ⟨b, o, hA, fun j hj => ?_⟩
  rw [hc j hj, map_getD _ _ _ (by simp at hl; omega)]
  rfl

theorem val_take_drop0 (B : Nat) (xs : List Nat) (m : Nat) (hm : 0 < m) (hl : m ≤ xs.length) (h : xs.getD (m - 1) 0 = 0) : val B (xs.take m) = val B (xs.take (m - 1)) := by
  obtain ⟨k, rfl⟩ : ∃ k, m = k + 1 := ⟨m - 1, by omega⟩
  rw [val_take_succ B xs k (by omega)]
  simp at h
  simp [h]
theorem last_take (xs : List Nat) (m d : Nat) (hm : 0 < m) (hl : m ≤ xs.length) (h : xs.getD (m - 1) 0 = d) (hd : d ≠ 0) : (xs.take m).getLast? ≠ some 0 := by
  rw [List.getLast?_eq_getElem?]
  have : (xs.take m).length = m := by simp; omega
  rw [this, List.getElem?_take]
  have h1 : m - 1 < xs.length := by omega
  simp [show m - 1 < m by omega, h1]
  simp [h1] at h
  omega

set_option maxHeartbeats 400000 in
theorem trim_fr (A : Option Addr) (n c : Nat) (xs : List Nat) (w : World) (h : Sl TU w A n c (xs.map U32)) (hx : Dg B32 xs) :
    Calls Try.prog 99 #[.slice A n c] w fun e w' => (∃ k, e = .returned (.slice A k c) ∧ Sl TU w A k c (L (val B32 xs))) ∧ w = w' := by
  have hn := h.le
  have hc := h.cap
  have hl := h.len
  rw [List.length_map] at hl
  have HL := Lib.hid hl
  have HH := Lib.hid h
  have HX := Lib.hid hx
  clear h hx hl
  go_enter Try.func99, Try.ntmps99
  go_wp2
  go_loop [0] (fun x => ∃ m : Nat, m ≤ n ∧ val B32 (xs.take m) = val B32 xs ∧ x = .slice A m c) (fun x => match x with | .slice _ m _ => m | _ => 0)
  case atStart => exact ⟨n, Nat.le_refl _, by rw [← HL.out, List.take_length], rfl⟩
  case round =>
    obtain ⟨m, hm, hv, rfl⟩ := hrel
    have HV := Lib.hid hv
    clear hv
    by_cases hm0 : 0 < m
    · obtain ⟨b, o, rfl, hcell⟩ := HH.out.at_u32 (by omega)
      have hcl := hcell (m - 1) (by omega)
      clear hcell
      obtain ⟨d, hd⟩ : ∃ d, xs.getD (m - 1) 0 = d := ⟨_, rfl⟩
      rw [hd] at hcl
      have HD := Lib.hid hd
      clear hd
      by_cases hd0 : d = 0
      · subst hd0
        go_wp2
        go_round
        case rel => exact ⟨m - 1, by omega, by rw [← val_take_drop0 _ _ _ hm0 (by rw [HL.out]; exact hm) HD.out]; exact HV.out, rfl⟩
        case measure => simp; omega
      · have hdb : ((d : Int) == 0) = false := by simp; omega
        go_wp2
        go_returns
        refine ⟨⟨_, rfl, ?_⟩, rfl⟩
        have e1 : digs B32 (val B32 xs) = xs.take m := by
          rw [← HV.out]
          exact digs_val B32 two_B32 _ (HX.out.take m) (last_take xs m d hm0 (by rw [HL.out]; exact hm) HD.out hd0)
        rw [L, e1, List.map_take]
        exact HH.out.take hm
    · have : m = 0 := by omega
      subst this
      go_wp2
      go_returns
      refine ⟨⟨_, rfl, ?_⟩, rfl⟩
      have e1 : val B32 xs = 0 := by rw [← HV.out]; rfl
      rw [e1]
      exact Sl.empty _ w A c hc
theorem trim_any (A : Option Addr) (n c : Nat) (xs : List Nat) (w : World) (h : Sl TU w A n c (xs.map U32)) (hx : Dg B32 xs) :
    Calls Try.prog 99 #[.slice A n c] w fun e w' => (∃ v, e = .returned v ∧ SL TU w v (L (val B32 xs))) ∧ w = w' :=
  (trim_fr A n c xs w h hx).mono fun _ _ ⟨⟨k, he, hs⟩, hw⟩ => ⟨⟨_, he, A, k, c, rfl, hs⟩, hw⟩
end Go.Proofs.Tb
