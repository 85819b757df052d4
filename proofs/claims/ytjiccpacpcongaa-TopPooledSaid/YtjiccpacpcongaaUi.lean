/- guarded, must, Prime, over, elements. -/
import Derived.Test.YtjiccpacpcongaaUb
import Derived.Defers
import Derived.Recover
set_option linter.unusedVariables false
set_option linter.unusedSimpArgs false
namespace Go.Proofs.Tb
open Go.RowKit Go.Lib
attribute [local go_sem] cell_set_same

theorem rmust_any (w : World) : Calls Try.prog 16 #[.bool true] w (Ret (fun z _ => z = .tuple #[]) w) := by
  go_enter Try.func16, Try.ntmps16
  go_wp2
  go_returns
  exact ⟨_, rfl, rfl, Below.refl _ _⟩
set_option maxHeartbeats 1600000 in
theorem rprime_any {q : Nat} (hq : Q4 q) (w : World) : Calls Try.prog 21 #[.int .i64 (q : Int)] w (Ret (fun z _ => z = .bool true) w) := by
  have hb : 5 ≤ q ∧ q ≤ 13 := by rcases hq with h | h | h | h <;> omega
  have HQ := Lib.hid (fun d (h1 : 2 ≤ d) (h2 : d * d ≤ q) => (show ¬ q % d = 0 from by
    have h3 : d ≤ 3 := by
      apply Classical.byContradiction
      intro h
      have : 4 * 4 ≤ d * d := Nat.mul_le_mul (by omega) (by omega)
      omega
    have h4 : d = 2 ∨ d = 3 := by omega
    rcases hq with rfl | rfl | rfl | rfl <;> rcases h4 with rfl | rfl <;> decide))
  obtain ⟨hb1, hb2⟩ := hb
  clear hq
  go_enter Try.func21, Try.ntmps21
  go_wp2_with fail
  go_loopw [3] (fun i wr => ∃ d : Nat, 2 ≤ d ∧ d ≤ 20 ∧ i = .int .i64 (d : Int) ∧ wr = w) (fun i _ => 20 - (intOf i).toNat)
  case atStart => exact ⟨2, by omega, by omega, rfl, rfl⟩
  case round =>
    obtain ⟨d, hd, hd2, rfl, rfl⟩ := hrel
    have hdd : d * d ≤ 20 * 20 := Nat.mul_le_mul hd2 hd2
    have wd : IntKind.i64.wrap ((d : Int) * (d : Int)) = ((d * d : Nat) : Int) := by rw [← Int.natCast_mul, IntWalk.i64_in _ (by omega)]
    have wd1 : IntKind.i64.wrap ((d : Int) + 1) = ((d + 1 : Nat) : Int) := by rw [IntWalk.i64_in _ (by omega)]; rfl
    obtain ⟨s, hs⟩ : ∃ s, d * d = s := ⟨_, rfl⟩
    rw [hs] at wd hdd
    by_cases hsq : s ≤ q
    · have psq : (s : Int) ≤ (q : Int) := by omega
      have hm := HQ.out d hd (by omega)
      have hm2 : ¬ (q : Int) % (d : Int) = 0 := by
        intro h
        apply hm
        have : ((q % d : Nat) : Int) = 0 := h
        omega
      have hd0 : ¬ (d : Int) = 0 := by omega
      have hd3 : d ≤ 3 := by
        apply Classical.byContradiction
        intro h
        have : 4 * 4 ≤ d * d := Nat.mul_le_mul (by omega) (by omega)
        omega
      clear hs hm
      go_wp2_with fail
      exact ⟨⟨d + 1, by omega, by omega, by go_num, trivial⟩, by simp [intOf]; omega⟩
    · have psq : ¬ (s : Int) ≤ (q : Int) := by omega
      clear hs
      go_wp2_with fail
      go_returns
      exact ⟨_, rfl, rfl, Below.refl _ _⟩
theorem rover_any {q : Nat} (hq : Q4 q) (w : World) : Calls Try.prog 14 #[.int .i64 (q : Int)] w (Ret (fun z _ => z = .int .i64 (q : Int)) w) := by
  go_enter Try.func14, Try.ntmps14
  go_wp2_with fail
  refine (rprime_any hq w).mono ?_
  rintro e w1 ⟨z, rfl, rfl, b1⟩
  have X1 := Lib.hid (show Ext w w1 from b1)
  clear b1
  go_wp2_with fail
  refine (rmust_any w1).mono ?_
  rintro e w2 ⟨z, rfl, rfl, b2⟩
  have X2 := Lib.hid (bt X1.out b2)
  clear b2
  go_wp2_with fail
  go_returns
  exact ⟨_, rfl, rfl, X2.out⟩
set_option maxHeartbeats 1600000 in
theorem relements_any {q : Nat} {A : Option Addr} {n c : Nat} {l : List Int} (w : World) (h : Rv w 1 A n c (ci l)) (hl : l.length = n) (hn : n ≤ 1000) (hr : ∀ a ∈ l, 0 ≤ a ∧ a < (q : Int)) : Calls Try.prog 15 #[.int .i64 (q : Int), .slice A n c] w (Ret (fun z _ => z = .tuple #[]) w) := by
  have H := Lib.hid h
  have HR := Lib.hid hr
  have HL := Lib.hid hl
  have hle := h.le
  have hcp := h.cap
  clear h hr hl
  go_enter Try.func15, Try.ntmps15
  go_wp2_with fail
  go_loopw [8] (fun i wr => ∃ k : Nat, k ≤ n ∧ i = .int .i64 (k : Int) ∧ Ext w wr) (fun i _ => n - (intOf i).toNat)
  case atStart => exact ⟨0, by omega, rfl, Ext.refl _⟩
  case round =>
    obtain ⟨k, hk, rfl, hx⟩ := hrel
    have HX := Lib.hid hx
    clear hx
    obtain ⟨W, rfl⟩ : ∃ W, W = wr := ⟨_, rfl⟩
    by_cases hkn : k < n
    · have pk : (k : Int) < (n : Int) := by omega
      have wk : IntKind.i64.wrap ((k : Int) + 1) = ((k + 1 : Nat) : Int) := by rw [IntWalk.i64_in _ (by omega)]; rfl
      have hkl : k < l.length := by rw [HL.out]; exact hkn
      obtain ⟨b, o, rfl, hc⟩ := H.out.at_ (by omega)
      have kc := ext_cell HX.out (hc k _ (ci_at hkl))
      have hra := HR.out (ro l k) (by unfold ro; rw [List.getD_eq_getElem?_getD, List.getElem?_eq_getElem hkl]; exact List.getElem_mem hkl)
      obtain ⟨x, hx⟩ : ∃ x, ro l k = x := ⟨_, rfl⟩
      rw [hx] at kc hra
      obtain ⟨h0, h1⟩ := hra
      clear hc hkl hx
      go_wp2_with fail
      refine (rmust_any W).mono ?_
      rintro e w1 ⟨z, rfl, rfl, b1⟩
      have HX1 := Lib.hid (bt HX.out b1)
      clear b1
      go_wp2_with fail
      exact ⟨⟨k + 1, by omega, by go_num, HX1.out⟩, by simp [intOf]; omega⟩
    · obtain rfl : k = n := by omega
      go_wp2_with fail
      go_returns
      exact ⟨_, rfl, rfl, HX.out⟩
end Go.Proofs.Tb
