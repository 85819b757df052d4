/- Contracts of package wide, second part: comparing sizes. -/
import Derived.Test.YtcbffkkcldnegaaWideA
set_option linter.unusedVariables false
set_option linter.unusedSimpArgs false
namespace Go.Proofs.Tb
open Go.RowKit
attribute [local go_sem] cell_set_same

/-- What comparing two sizes returns: a number of the right sign. -/
def Sgn (m m' : Nat) (v : Value) (_ : World) : Prop := ∃ r : Int, v = .int .i64 r ∧ (r < 0 ↔ m < m') ∧ (0 < r ↔ m' < m)

theorem val_split (B : Nat) (xs : List Nat) (k : Nat) : val B xs = val B (xs.take k) + B ^ (xs.take k).length * val B (xs.drop k) := by
  rw [← val_append, List.take_append_drop]
theorem cmp_at (B : Nat) (xs ys : List Nat) (n k a b : Nat) (hx : xs.length = n) (hy : ys.length = n) (hdx : Dg B xs) (hk : 0 < k) (hkn : k ≤ n)
    (hd : val B (xs.drop k) = val B (ys.drop k)) (ha : xs.getD (k - 1) 0 = a) (hb : ys.getD (k - 1) 0 = b) (hlt : a < b) : val B xs < val B ys := by
  rw [val_split B xs (k - 1), val_split B ys (k - 1)]
  have e1 : (xs.take (k - 1)).length = k - 1 := by simp; omega
  have e2 : (ys.take (k - 1)).length = k - 1 := by simp; omega
  rw [e1, e2, val_drop B xs (k - 1) (by omega), val_drop B ys (k - 1) (by omega), ha, hb, show k - 1 + 1 = k by omega, hd]
  have h1 := val_lt B _ (hdx.take (k - 1))
  rw [e1] at h1
  have h2 : B ^ (k - 1) * (a + 1 + B * val B (ys.drop k)) ≤ B ^ (k - 1) * (b + B * val B (ys.drop k)) := Nat.mul_le_mul_left _ (by omega)
  have h3 : B ^ (k - 1) * (a + 1 + B * val B (ys.drop k)) = B ^ (k - 1) * (a + B * val B (ys.drop k)) + B ^ (k - 1) := by
    rw [show a + 1 + B * val B (ys.drop k) = (a + B * val B (ys.drop k)) + 1 by omega, Nat.mul_add, Nat.mul_one]
  omega
theorem drop_eq_step (B : Nat) (xs ys : List Nat) (n k a : Nat) (hx : xs.length = n) (hy : ys.length = n) (hk : 0 < k) (hkn : k ≤ n)
    (hd : val B (xs.drop k) = val B (ys.drop k)) (ha : xs.getD (k - 1) 0 = a) (hb : ys.getD (k - 1) 0 = a) : val B (xs.drop (k - 1)) = val B (ys.drop (k - 1)) := by
  rw [val_drop B xs (k - 1) (by omega), val_drop B ys (k - 1) (by omega), ha, hb, show k - 1 + 1 = k by omega, hd]

set_option maxHeartbeats 800000 in
theorem wsize_eqlen (A A' : Option Addr) (n c c' : Nat) (xs ys : List Nat) (w : World) (h : Sl TU w A n c (xs.map U32)) (h' : Sl TU w A' n c' (ys.map U32)) (hdx : Dg B32 xs) (hdy : Dg B32 ys) :
    Calls Try.prog 125 #[.slice A n c, .slice A' n c'] w (Ret (Sgn (val B32 xs) (val B32 ys)) w) := by
  have hn := h.le
  have hc := h.cap
  have hl := h.len
  have hl' := h'.len
  rw [List.length_map] at hl hl'
  have HL := Lib.hid hl
  have HL' := Lib.hid hl'
  have HH := Lib.hid h
  have HH' := Lib.hid h'
  have HX := Lib.hid hdx
  have HY := Lib.hid hdy
  clear h hdx hl h' hdy hl'
  have hne0 : ((n : Int) != (n : Int)) = false := by simp
  go_enter Try.func125, Try.ntmps125
  go_wp2
  go_loopw [5] (fun i wr => ∃ k nq : Nat, k ≤ n ∧ val B32 (xs.drop k) = val B32 (ys.drop k) ∧ i = .int .i64 ((k : Int) - 1) ∧ wr = w.drewN nq) (fun i _ => (intOf i + 1).toNat)
  case atStart => exact ⟨n, 0, Nat.le_refl _, by rw [← HL.out, List.drop_length, HL.out, ← HL'.out, List.drop_length], rfl, rfl⟩
  case round =>
    obtain ⟨k, nq, hk, hv, rfl, rfl⟩ := hrel
    have HV := Lib.hid hv
    clear hv
    by_cases hk0 : 0 < k
    · obtain ⟨b, o, rfl, hcell⟩ := HH.out.at_u32 (by omega)
      obtain ⟨b', o', rfl, hcell'⟩ := HH'.out.at_u32 (by omega)
      have hcl := hcell (k - 1) (by omega)
      have hcl' := hcell' (k - 1) (by omega)
      clear hcell hcell'
      obtain ⟨d, hd⟩ : ∃ d, xs.getD (k - 1) 0 = d := ⟨_, rfl⟩
      obtain ⟨d', hd'⟩ : ∃ d, ys.getD (k - 1) 0 = d := ⟨_, rfl⟩
      rw [hd] at hcl
      rw [hd'] at hcl'
      have HD := Lib.hid hd
      have HD' := Lib.hid hd'
      clear hd hd'
      have hi0 : (0 : Int) ≤ (k : Int) - 1 := by omega
      have hi1 : (k : Int) - 1 < (n : Int) := by omega
      by_cases hdd : d = d'
      · subst hdd
        go_wp2
        go_quiet (fail)
        go_wp2
        go_roundw
        case rel => exact ⟨k - 1, _, by omega, drop_eq_step B32 xs ys n k d HL.out HL'.out hk0 hk HV.out HD.out HD'.out, by go_num, rfl⟩
        case measure => simp [intOf]; omega
      · have hne : ((d : Int) != (d' : Int)) = true := by rw [bne_iff_ne]; omega
        go_wp2
        go_quiet (fail)
        go_wp2
        go_quiet (fail)
        rcases Nat.lt_or_gt_of_ne hdd with hlt | hlt
        · go_wp2
          go_returns
          exact ⟨_, rfl, ⟨-1, rfl, by have := cmp_at B32 xs ys n k d d' HL.out HL'.out HX.out hk0 hk HV.out HD.out HD'.out hlt; omega, by have := cmp_at B32 xs ys n k d d' HL.out HL'.out HX.out hk0 hk HV.out HD.out HD'.out hlt; omega⟩, below_drewN (below_drewN (below_drewN (Below.refl _ _) _) _) _⟩
        · have hnl : ¬ d < d' := by omega
          go_wp2
          go_returns
          exact ⟨_, rfl, ⟨1, rfl, by have := cmp_at B32 ys xs n k d' d HL'.out HL.out HY.out hk0 hk HV.out.symm HD'.out HD.out hlt; omega, by have := cmp_at B32 ys xs n k d' d HL'.out HL.out HY.out hk0 hk HV.out.symm HD'.out HD.out hlt; omega⟩, below_drewN (below_drewN (below_drewN (Below.refl _ _) _) _) _⟩
    · have : k = 0 := by omega
      subst this
      go_wp2
      go_returns
      have e1 : val B32 xs = val B32 ys := by simpa using HV.out
      exact ⟨_, rfl, ⟨0, rfl, by omega, by omega⟩, below_drewN (Below.refl _ _) _⟩
end Go.Proofs.Tb
