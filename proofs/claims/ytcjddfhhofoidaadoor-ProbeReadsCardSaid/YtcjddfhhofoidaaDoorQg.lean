/- Contract of probe.Codes; its answer at 1, 1, 2. -/
import Derived.Test.YtcjddfhhofoidaaDoorQf
set_option linter.unusedVariables false
set_option linter.unusedSimpArgs false
namespace Go.Proofs.Tb
open Go.RowKit
attribute [local go_sem] cell_set_same

def okW (ws : List Int) (k : Nat) : Prop := ∀ j, j < k → 1 ≤ ws.getD j 0 ∧ ws.getD j 0 ≤ 1000000
theorem okW_zero (ws : List Int) : okW ws 0 := fun j hj => absurd hj (by omega)
theorem okW_succ {ws : List Int} {k : Nat} : okW ws (k + 1) ↔ okW ws k ∧ (1 ≤ ws.getD k 0 ∧ ws.getD k 0 ≤ 1000000) := by
  constructor
  · intro h; exact ⟨fun j hj => h j (by omega), h k (by omega)⟩
  · rintro ⟨h1, h2⟩ j hj
    rcases Nat.lt_or_eq_of_le (Nat.le_of_lt_succ hj) with h | rfl
    · exact h1 j h
    · exact h2
/-- What Codes returns. -/
def CdsR (ws : List Int) (v : Value) (w : World) : Prop := (Wok ws → ∃ A c b ls S, v = .tuple #[.slice A ws.length c, .int .i64 S, .int .i64 0] ∧ Il w A ws.length c ls ∧ HRk ws (ws.length - 1) [b] ls S) ∧ (¬ Wok ws → v = .tuple #[.slice none 0 0, .int .i64 0, .int .i64 1])
set_option maxHeartbeats 6400000 in
set_option maxRecDepth 100000 in
theorem rcodesX_any (A : Option Addr) (n c : Nat) (ws : List Int) (w : World) (h : Il w A n c ws) :
    Calls Tryd.prog 31 #[.slice A n c] w (Ret (CdsR ws) w) := by
  have hn := h.le
  have hc := h.cap
  have HL := Lib.hid h.len
  have H := Lib.hid h
  clear h
  by_cases b1 : 1 ≤ n
  · by_cases b2 : n ≤ 64
    · have d1 : decide ((1 : Int) ≤ (n : Int)) = true := by simp; omega
      have d2 : decide ((n : Int) ≤ 64) = true := by simp; omega
      have HB : Hid (BI true (1 ≤ n ∧ n ≤ 64)) := show _ ↔ _ from ⟨fun _ => ⟨b1, b2⟩, fun _ => rfl⟩
      go_enter Tryd.func31, Tryd.ntmps31
      go_wp2
      go_loopw [5, 20] (fun ok i wr => ∃ (b : Bool) (k : Nat), k ≤ n ∧ i = .int .i64 (k : Int) ∧ ok = .bool b ∧ BI b ((1 ≤ n ∧ n ≤ 64) ∧ okW ws k) ∧ Below w.heap.size w wr) (fun _ i _ => n - (intOf i).toNat)
      case atStart => exact ⟨true, 0, by omega, rfl, rfl, BI.zero HB.out (okW_zero ws), Below.refl _ _⟩
      case round =>
        obtain ⟨b, k, hk, rfl, rfl, hb, hbw⟩ := hrel
        have HBW := Lib.hid hbw
        have HBB := Lib.hid hb
        clear hbw hb HB
        by_cases hkn : k < n
        · obtain ⟨t, o, rfl, hcell⟩ := (H.out.below HBW.out).at_ (by omega)
          have ck := hcell k hkn
          obtain ⟨x, hx⟩ : ∃ x, ws.getD k 0 = x := ⟨_, rfl⟩
          rw [hx] at ck
          have HX := Lib.hid hx
          clear hx hcell
          cases b with
          | false =>
            go_wp2
            go_roundw
            case rel => exact ⟨false, k + 1, by omega, by go_num, rfl, HBB.out.off okW_succ, HBW.out⟩
            case measure => simp [intOf]; omega
          | true =>
            by_cases g1 : 1 ≤ x
            · have g1' : decide ((1 : Int) ≤ x) = true := by simpa using g1
              by_cases g2 : x ≤ 1000000
              · have g2' : decide (x ≤ 1000000) = true := by simpa using g2
                have HQ := Lib.hid (HBB.out.on okW_succ (by rw [HX.out]; exact ⟨g1, g2⟩))
                go_wp2
                go_roundw
                case rel => exact ⟨true, k + 1, by omega, by go_num, rfl, HQ.out, HBW.out⟩
                case measure => simp [intOf]; omega
              · have g2' : decide (x ≤ 1000000) = false := by simpa using g2
                have HQ := Lib.hid (HBB.out.bad okW_succ (by rw [HX.out]; exact fun h => g2 h.2))
                go_wp2
                go_roundw
                case rel => exact ⟨false, k + 1, by omega, by go_num, rfl, HQ.out, HBW.out⟩
                case measure => simp [intOf]; omega
            · have g1' : decide ((1 : Int) ≤ x) = false := by simpa using g1
              have HQ := Lib.hid (HBB.out.bad okW_succ (by rw [HX.out]; exact fun h => g1 h.1))
              go_wp2
              go_roundw
              case rel => exact ⟨false, k + 1, by omega, by go_num, rfl, HQ.out, HBW.out⟩
              case measure => simp [intOf]; omega
        · have hkn2 : k = n := by omega
          subst hkn2
          have HD : Hid (BI b (Wok ws)) := show _ ↔ _ from ⟨fun e => by have h := HBB.out.1 e; exact ⟨by rw [HL.out]; exact h.1, by rw [HL.out]; exact h.2⟩, fun e => HBB.out.2 ⟨by have := e.1; rw [HL.out] at this; exact this, by have := e.2; rw [HL.out] at this; exact this⟩⟩
          clear HBB
          cases b with
          | false =>
            have HE := Lib.hid (show CdsR ws (.tuple #[.slice none 0 0, .int .i64 0, .int .i64 1]) wr from ⟨(fun h => by have := HD.out.2 h; cases this), fun _ => rfl⟩)
            go_wp2
            go_returns
            exact ⟨_, rfl, HE.out, HBW.out⟩
          | true =>
            go_wp2_with fail
            refine (rcodes_any A k c ws wr (H.out.below HBW.out) (HD.out.1 rfl)).mono ?_
            rintro e w2 ⟨v2, rfl, ⟨A', c', b, ls, S, rfl, hil, hr⟩, hb2⟩
            have l2 := hil.le
            have l2' := hil.cap
            have HE := Lib.hid (show CdsR ws (.tuple #[.slice A' k c', .int .i64 S, .int .i64 0]) w2 from ⟨fun _ => ⟨A', c', b, ls, S, by rw [HL.out], by rw [HL.out]; exact hil, by rw [HL.out]; exact hr⟩, fun h => absurd (HD.out.1 rfl) h⟩)
            have HB2 := Lib.hid (bt HBW.out hb2)
            clear hil hr hb2
            go_wp2
            go_returns
            exact ⟨_, rfl, HE.out, HB2.out⟩
    · have d1 : decide ((1 : Int) ≤ (n : Int)) = true := by simp; omega
      have d2 : decide ((n : Int) ≤ 64) = false := by simp; omega
      have HB : Hid (BI false (1 ≤ n ∧ n ≤ 64)) := show _ ↔ _ from ⟨(fun h => by cases h), fun h => absurd h.2 b2⟩
      go_enter Tryd.func31, Tryd.ntmps31
      go_wp2
      go_loopw [5, 20] (fun ok i wr => ∃ (b : Bool) (k : Nat), k ≤ n ∧ i = .int .i64 (k : Int) ∧ ok = .bool b ∧ BI b ((1 ≤ n ∧ n ≤ 64) ∧ okW ws k) ∧ Below w.heap.size w wr) (fun _ i _ => n - (intOf i).toNat)
      case atStart => exact ⟨false, 0, by omega, rfl, rfl, BI.zero HB.out (okW_zero ws), Below.refl _ _⟩
      case round =>
        obtain ⟨b, k, hk, rfl, rfl, hb, hbw⟩ := hrel
        have HBW := Lib.hid hbw
        have HBB := Lib.hid hb
        clear hbw hb HB
        by_cases hkn : k < n
        · obtain ⟨t, o, rfl, hcell⟩ := (H.out.below HBW.out).at_ (by omega)
          have ck := hcell k hkn
          obtain ⟨x, hx⟩ : ∃ x, ws.getD k 0 = x := ⟨_, rfl⟩
          rw [hx] at ck
          have HX := Lib.hid hx
          clear hx hcell
          cases b with
          | false =>
            go_wp2
            go_roundw
            case rel => exact ⟨false, k + 1, by omega, by go_num, rfl, HBB.out.off okW_succ, HBW.out⟩
            case measure => simp [intOf]; omega
          | true =>
            by_cases g1 : 1 ≤ x
            · have g1' : decide ((1 : Int) ≤ x) = true := by simpa using g1
              by_cases g2 : x ≤ 1000000
              · have g2' : decide (x ≤ 1000000) = true := by simpa using g2
                have HQ := Lib.hid (HBB.out.on okW_succ (by rw [HX.out]; exact ⟨g1, g2⟩))
                go_wp2
                go_roundw
                case rel => exact ⟨true, k + 1, by omega, by go_num, rfl, HQ.out, HBW.out⟩
                case measure => simp [intOf]; omega
              · have g2' : decide (x ≤ 1000000) = false := by simpa using g2
                have HQ := Lib.hid (HBB.out.bad okW_succ (by rw [HX.out]; exact fun h => g2 h.2))
                go_wp2
                go_roundw
                case rel => exact ⟨false, k + 1, by omega, by go_num, rfl, HQ.out, HBW.out⟩
                case measure => simp [intOf]; omega
            · have g1' : decide ((1 : Int) ≤ x) = false := by simpa using g1
              have HQ := Lib.hid (HBB.out.bad okW_succ (by rw [HX.out]; exact fun h => g1 h.1))
              go_wp2
              go_roundw
              case rel => exact ⟨false, k + 1, by omega, by go_num, rfl, HQ.out, HBW.out⟩
              case measure => simp [intOf]; omega
        · have hkn2 : k = n := by omega
          subst hkn2
          have HD : Hid (BI b (Wok ws)) := show _ ↔ _ from ⟨fun e => by have h := HBB.out.1 e; exact ⟨by rw [HL.out]; exact h.1, by rw [HL.out]; exact h.2⟩, fun e => HBB.out.2 ⟨by have := e.1; rw [HL.out] at this; exact this, by have := e.2; rw [HL.out] at this; exact this⟩⟩
          clear HBB
          cases b with
          | false =>
            have HE := Lib.hid (show CdsR ws (.tuple #[.slice none 0 0, .int .i64 0, .int .i64 1]) wr from ⟨(fun h => by have := HD.out.2 h; cases this), fun _ => rfl⟩)
            go_wp2
            go_returns
            exact ⟨_, rfl, HE.out, HBW.out⟩
          | true =>
            go_wp2_with fail
            refine (rcodes_any A k c ws wr (H.out.below HBW.out) (HD.out.1 rfl)).mono ?_
            rintro e w2 ⟨v2, rfl, ⟨A', c', b, ls, S, rfl, hil, hr⟩, hb2⟩
            have l2 := hil.le
            have l2' := hil.cap
            have HE := Lib.hid (show CdsR ws (.tuple #[.slice A' k c', .int .i64 S, .int .i64 0]) w2 from ⟨fun _ => ⟨A', c', b, ls, S, by rw [HL.out], by rw [HL.out]; exact hil, by rw [HL.out]; exact hr⟩, fun h => absurd (HD.out.1 rfl) h⟩)
            have HB2 := Lib.hid (bt HBW.out hb2)
            clear hil hr hb2
            go_wp2
            go_returns
            exact ⟨_, rfl, HE.out, HB2.out⟩
  · have d1 : decide ((1 : Int) ≤ (n : Int)) = false := by simp; omega
    have HB : Hid (BI false (1 ≤ n ∧ n ≤ 64)) := show _ ↔ _ from ⟨(fun h => by cases h), fun h => absurd h.1 b1⟩
    go_enter Tryd.func31, Tryd.ntmps31
    go_wp2
    go_loopw [5, 20] (fun ok i wr => ∃ (b : Bool) (k : Nat), k ≤ n ∧ i = .int .i64 (k : Int) ∧ ok = .bool b ∧ BI b ((1 ≤ n ∧ n ≤ 64) ∧ okW ws k) ∧ Below w.heap.size w wr) (fun _ i _ => n - (intOf i).toNat)
    case atStart => exact ⟨false, 0, by omega, rfl, rfl, BI.zero HB.out (okW_zero ws), Below.refl _ _⟩
    case round =>
      obtain ⟨b, k, hk, rfl, rfl, hb, hbw⟩ := hrel
      have HBW := Lib.hid hbw
      have HBB := Lib.hid hb
      clear hbw hb HB
      by_cases hkn : k < n
      · exact absurd hkn (by omega)
      · have hkn2 : k = n := by omega
        subst hkn2
        have HD : Hid (BI b (Wok ws)) := show _ ↔ _ from ⟨fun e => by have h := HBB.out.1 e; exact ⟨by rw [HL.out]; exact h.1, by rw [HL.out]; exact h.2⟩, fun e => HBB.out.2 ⟨by have := e.1; rw [HL.out] at this; exact this, by have := e.2; rw [HL.out] at this; exact this⟩⟩
        clear HBB
        cases b with
        | false =>
          have HE := Lib.hid (show CdsR ws (.tuple #[.slice none 0 0, .int .i64 0, .int .i64 1]) wr from ⟨(fun h => by have := HD.out.2 h; cases this), fun _ => rfl⟩)
          go_wp2
          go_returns
          exact ⟨_, rfl, HE.out, HBW.out⟩
        | true =>
          go_wp2_with fail
          refine (rcodes_any A k c ws wr (H.out.below HBW.out) (HD.out.1 rfl)).mono ?_
          rintro e w2 ⟨v2, rfl, ⟨A', c', b, ls, S, rfl, hil, hr⟩, hb2⟩
          have l2 := hil.le
          have l2' := hil.cap
          have HE := Lib.hid (show CdsR ws (.tuple #[.slice A' k c', .int .i64 S, .int .i64 0]) w2 from ⟨fun _ => ⟨A', c', b, ls, S, by rw [HL.out], by rw [HL.out]; exact hil, by rw [HL.out]; exact hr⟩, fun h => absurd (HD.out.1 rfl) h⟩)
          have HB2 := Lib.hid (bt HBW.out hb2)
          clear hil hr hb2
          go_wp2
          go_returns
          exact ⟨_, rfl, HE.out, HB2.out⟩
end Go.Proofs.Tb
