/- Tests in memory; contracts of probe.Check and of the reference's Valid. -/
import Derived.Test.YtcjddfhhofoidaaDoorPa
set_option linter.unusedVariables false
set_option linter.unusedSimpArgs false
namespace Go.Proofs.Tb
open Go.RowKit
attribute [local go_sem] cell_set_same

/-- A test: its cost, and what it shows. -/
abbrev Tt := Int × List Int
abbrev TFA : TypeId := 58
abbrev TTE : TypeId := 54
abbrev TIS : TypeId := 37
def tC (ts : List Tt) (j : Nat) : Int := (ts.getD j (0, [])).1
def tS (ts : List Tt) (j : Nat) : List Int := (ts.getD j (0, [])).2
/-- The slice '.slice A n c' reads as the tests ts. -/
structure Ts (w : World) (A : Option Addr) (n c : Nat) (ts : List Tt) : Prop where
  len : ts.length = n
  le : n ≤ c
  cap : c ≤ 9223372036854775807
  at_ : 0 < n → ∃ b o, A = some ⟨b, o, none⟩ ∧ ∀ j, j < n → w.cell? ⟨b, o + j * 2, none⟩ = some (.int .i64 (tC ts j)) ∧ ∃ A' n' c', w.cell? ⟨b, o + j * 2 + 1, none⟩ = some (.slice A' n' c') ∧ Il w A' n' c' (tS ts j)
theorem Ts.below {w w' : World} {A : Option Addr} {n c : Nat} {ts : List Tt} (h : Ts w A n c ts) (hb : Below w.heap.size w w') : Ts w' A n c ts := by
  refine ⟨h.len, h.le, h.cap, fun hn => ?_⟩
  obtain ⟨b, o, hA, hc⟩ := h.at_ hn
  refine ⟨b, o, hA, fun j hj => ?_⟩
  obtain ⟨h1, A', n', c', h2, h3⟩ := hc j hj
  exact ⟨(hb.cell (p := ⟨b, o + j * 2, none⟩) (World.block_lt_of_cell? w _ h1)).trans h1, A', n', c', (hb.cell (p := ⟨b, o + j * 2 + 1, none⟩) (World.block_lt_of_cell? w _ h2)).trans h2, h3.below hb⟩
/-- A valid case. -/
def okF (ws : List Int) (k : Nat) : Prop := ∀ j, j < k → 1 ≤ ws.getD j 0 ∧ ws.getD j 0 ≤ 1000
def okT (n : Nat) (ts : List Tt) (k : Nat) : Prop := ∀ j, j < k → (0 ≤ tC ts j ∧ tC ts j ≤ 1000) ∧ Ris (tS ts j) (n : Int)
def Cv (ws : List Int) (ts : List Tt) : Prop := (1 ≤ ws.length ∧ ws.length ≤ 10 ∧ ts.length ≤ 16) ∧ okF ws ws.length ∧ okT ws.length ts ts.length
theorem okF_succ {ws : List Int} {k : Nat} : okF ws (k + 1) ↔ okF ws k ∧ (1 ≤ ws.getD k 0 ∧ ws.getD k 0 ≤ 1000) := by
  constructor
  · intro h; exact ⟨fun j hj => h j (by omega), h k (by omega)⟩
  · rintro ⟨h1, h2⟩ j hj
    rcases Nat.lt_or_eq_of_le (Nat.le_of_lt_succ hj) with h | rfl
    · exact h1 j h
    · exact h2
theorem okT_succ {n : Nat} {ts : List Tt} {k : Nat} : okT n ts (k + 1) ↔ okT n ts k ∧ ((0 ≤ tC ts k ∧ tC ts k ≤ 1000) ∧ Ris (tS ts k) (n : Int)) := by
  constructor
  · intro h; exact ⟨fun j hj => h j (by omega), h k (by omega)⟩
  · rintro ⟨h1, h2⟩ j hj
    rcases Nat.lt_or_eq_of_le (Nat.le_of_lt_succ hj) with h | rfl
    · exact h1 j h
    · exact h2
theorem okF_zero (ws : List Int) : okF ws 0 := fun j hj => absurd hj (by omega)
theorem okT_zero (n : Nat) (ts : List Tt) : okT n ts 0 := fun j hj => absurd hj (by omega)
/-- A Bool that says whether. -/
def BI (b : Bool) (p : Prop) : Prop := b = true ↔ p
theorem BI.zero {b : Bool} {p q : Prop} (h : BI b p) (hq : q) : BI b (p ∧ q) := ⟨fun e => ⟨h.1 e, hq⟩, fun e => h.2 e.1⟩
theorem BI.off {p q r r' : Prop} (h : BI false (p ∧ r)) (e : r' ↔ r ∧ q) : BI false (p ∧ r') := ⟨(fun h' => by cases h'), fun h' => h.2 ⟨h'.1, (e.1 h'.2).1⟩⟩
theorem BI.on {p q r r' : Prop} (h : BI true (p ∧ r)) (e : r' ↔ r ∧ q) (hq : q) : BI true (p ∧ r') := ⟨fun _ => ⟨(h.1 rfl).1, e.2 ⟨(h.1 rfl).2, hq⟩⟩, fun _ => rfl⟩
theorem BI.bad {b : Bool} {p q r r' : Prop} (h : BI b (p ∧ r)) (e : r' ↔ r ∧ q) (hq : ¬ q) : BI false (p ∧ r') := ⟨(fun h' => by cases h'), fun h' => absurd (e.1 h'.2).2 hq⟩
/-- What Check returns. -/
def ChkR (ws : List Int) (ts : List Tt) (v : Value) (_ : World) : Prop := (Cv ws ts → v = .int .i64 0) ∧ (¬ Cv ws ts → v = .int .i64 1)

set_option maxHeartbeats 6400000 in
set_option maxRecDepth 100000 in
theorem rcheck_any (A A' : Option Addr) (n c m d : Nat) (ws : List Int) (ts : List Tt) (w : World) (h : Il w A n c ws) (h' : Ts w A' m d ts) :
    Calls Tryd.prog 17 #[.slice A n c, .slice A' m d] w (Ret (ChkR ws ts) w) := by
  have hn := h.le
  have hc := h.cap
  have hm := h'.le
  have hd := h'.cap
  have HL := Lib.hid h.len
  have HL' := Lib.hid h'.len
  have H := Lib.hid h
  have H' := Lib.hid h'
  clear h h'
  by_cases b1 : 1 ≤ n
  · by_cases b2 : n ≤ 10
    · by_cases b3 : m ≤ 16
      · have d1 : decide ((1 : Int) ≤ (n : Int)) = true := by simp; omega
        have d2 : decide ((n : Int) ≤ 10) = true := by simp; omega
        have d3 : decide ((m : Int) ≤ 16) = true := by simp; omega
        have HB : Hid (BI true (1 ≤ n ∧ n ≤ 10 ∧ m ≤ 16)) := show _ ↔ _ from ⟨fun _ => ⟨b1, b2, b3⟩, fun _ => rfl⟩
        go_enter Tryd.func17, Tryd.ntmps17
        go_wp2
        go_loopw [5, 25] (fun ok i wr => ∃ (b : Bool) (k : Nat), k ≤ n ∧ i = .int .i64 (k : Int) ∧ ok = .bool b ∧ BI b ((1 ≤ n ∧ n ≤ 10 ∧ m ≤ 16) ∧ okF ws k) ∧ Below w.heap.size w wr) (fun _ i _ => n - (intOf i).toNat)
        case atStart => exact ⟨true, 0, by omega, rfl, rfl, BI.zero HB.out (okF_zero ws), Below.refl _ _⟩
        case round =>
          obtain ⟨b, k, hk, rfl, rfl, hb, hbw⟩ := hrel
          have HBW := Lib.hid hbw
          have HBB := Lib.hid hb
          clear hbw hb HB
          by_cases hkn : k < n
          · obtain ⟨t, o, rfl, hcell⟩ := (H.out.below HBW.out).at_ (by omega)
            have ck := hcell k hkn
            obtain ⟨x, hx⟩ : ∃ x, ws.getD k 0 = x := ⟨_, rfl⟩
            rw [hx] at ck
            have HX := Lib.hid hx
            clear hx hcell
            cases b with
            | false =>
              go_wp2
              go_roundw
              case rel => exact ⟨false, k + 1, by omega, by go_num, rfl, HBB.out.off okF_succ, HBW.out.alloc HBW.out.size _⟩
              case measure => simp [intOf]; omega
            | true =>
              by_cases g1 : 1 ≤ x
              · have g1' : decide ((1 : Int) ≤ x) = true := by simpa using g1
                by_cases g2 : x ≤ 1000
                · have g2' : decide (x ≤ 1000) = true := by simpa using g2
                  have HQ := Lib.hid (HBB.out.on okF_succ (by rw [HX.out]; exact ⟨g1, g2⟩))
                  go_wp2
                  go_roundw
                  case rel => exact ⟨true, k + 1, by omega, by go_num, rfl, HQ.out, HBW.out.alloc HBW.out.size _⟩
                  case measure => simp [intOf]; omega
                · have g2' : decide (x ≤ 1000) = false := by simpa using g2
                  have HQ := Lib.hid (HBB.out.bad okF_succ (by rw [HX.out]; exact fun h => g2 h.2))
                  go_wp2
                  go_roundw
                  case rel => exact ⟨false, k + 1, by omega, by go_num, rfl, HQ.out, HBW.out.alloc HBW.out.size _⟩
                  case measure => simp [intOf]; omega
              · have g1' : decide ((1 : Int) ≤ x) = false := by simpa using g1
                have HQ := Lib.hid (HBB.out.bad okF_succ (by rw [HX.out]; exact fun h => g1 h.1))
                go_wp2
                go_roundw
                case rel => exact ⟨false, k + 1, by omega, by go_num, rfl, HQ.out, HBW.out.alloc HBW.out.size _⟩
                case measure => simp [intOf]; omega
          · have hkn2 : k = n := by omega
            subst hkn2
            obtain ⟨W1, hW1⟩ : ∃ W, W = wr := ⟨_, rfl⟩
            subst hW1
            go_wp2
            go_loopw [5, 43] (fun ok i wr => ∃ (b : Bool) (j : Nat), j ≤ m ∧ i = .int .i64 (j : Int) ∧ ok = .bool b ∧ BI b (((1 ≤ k ∧ k ≤ 10 ∧ m ≤ 16) ∧ okF ws k) ∧ okT k ts j) ∧ Below W1.heap.size W1 wr) (fun _ i _ => m - (intOf i).toNat)
            case atStart => exact ⟨b, 0, by omega, rfl, rfl, HBB.out.zero (okT_zero k ts), Below.refl _ _⟩
            case round =>
              clear HBB
              obtain ⟨b, j, hj, rfl, rfl, hb, hbw⟩ := hrel
              have HBX := Lib.hid hbw
              have HBB := Lib.hid hb
              clear hbw hb
              by_cases hjm : j < m
              · obtain ⟨t, o, rfl, hcell⟩ := (H'.out.below (bt HBW.out HBX.out)).at_ (by omega)
                obtain ⟨ck1, A2, n2, c2, ck2, hil⟩ := hcell j hjm
                have HIL := Lib.hid hil
                have hn2 := hil.le
                have hc2 := hil.cap
                obtain ⟨x, hx⟩ : ∃ x, tC ts j = x := ⟨_, rfl⟩
                rw [hx] at ck1
                have HX := Lib.hid hx
                clear hx hcell hil
                cases b with
                | false =>
                  go_wp2
                  go_roundw
                  case rel => exact ⟨false, j + 1, by omega, by go_num, rfl, HBB.out.off okT_succ, HBX.out.alloc HBX.out.size _⟩
                  case measure => simp [intOf]; omega
                | true =>
                  by_cases g1 : 0 ≤ x
                  · have g1' : decide ((0 : Int) ≤ x) = true := by simpa using g1
                    by_cases g2 : x ≤ 1000
                    · have g2' : decide (x ≤ 1000) = true := by simpa using g2
                      go_wp2_with fail
                      refine (rrising_any A2 n2 c2 (tS ts j) (k : Int) _ (HIL.out.below ((Below.refl _ _).alloc (Nat.le_refl _) _))).mono ?_
                      rintro ex w3 ⟨v3, rfl, hv3, hb3⟩
                      have HB3 := Lib.hid ((HBX.out.alloc HBX.out.size _).trans (hb3.mono (Nat.le_trans HBX.out.size (by simp))))
                      clear hb3
                      by_cases g3 : Ris (tS ts j) (k : Int)
                      · rw [ris_t g3] at hv3
                        subst hv3
                        have HQ := Lib.hid (HBB.out.on okT_succ (by rw [HX.out]; exact ⟨⟨g1, g2⟩, g3⟩))
                        clear g3
                        go_wp2
                        go_roundw
                        case rel => exact ⟨true, j + 1, by omega, by go_num, rfl, HQ.out, HB3.out⟩
                        case measure => simp [intOf]; omega
                      · rw [ris_f g3] at hv3
                        subst hv3
                        have HQ := Lib.hid (HBB.out.bad okT_succ (fun h => g3 h.2))
                        clear g3
                        go_wp2
                        go_roundw
                        case rel => exact ⟨false, j + 1, by omega, by go_num, rfl, HQ.out, HB3.out⟩
                        case measure => simp [intOf]; omega
                    · have g2' : decide (x ≤ 1000) = false := by simpa using g2
                      have HQ := Lib.hid (HBB.out.bad okT_succ (by rw [HX.out]; exact fun h => g2 h.1.2))
                      go_wp2
                      go_roundw
                      case rel => exact ⟨false, j + 1, by omega, by go_num, rfl, HQ.out, HBX.out.alloc HBX.out.size _⟩
                      case measure => simp [intOf]; omega
                  · have g1' : decide ((0 : Int) ≤ x) = false := by simpa using g1
                    have HQ := Lib.hid (HBB.out.bad okT_succ (by rw [HX.out]; exact fun h => g1 h.1.1))
                    go_wp2
                    go_roundw
                    case rel => exact ⟨false, j + 1, by omega, by go_num, rfl, HQ.out, HBX.out.alloc HBX.out.size _⟩
                    case measure => simp [intOf]; omega
              · have hjm2 : j = m := by omega
                subst hjm2
                have HC : Hid (∀ b' : Bool, BI b' (((1 ≤ k ∧ k ≤ 10 ∧ j ≤ 16) ∧ okF ws k) ∧ okT k ts j) → BI b' (Cv ws ts)) := fun b' h => by
                  unfold Cv
                  rw [HL.out, HL'.out]
                  exact ⟨fun e => ⟨(h.1 e).1.1, (h.1 e).1.2, (h.1 e).2⟩, fun e => h.2 ⟨⟨e.1, e.2.1⟩, e.2.2⟩⟩
                have HD := Lib.hid (HC.out _ HBB.out)
                have HBE := Lib.hid (bt HBW.out HBX.out)
                clear HC HBB
                cases b with
                | false =>
                  go_wp2
                  go_returns
                  exact ⟨_, rfl, ⟨(fun h => by have := HD.out.2 h; cases this), fun _ => rfl⟩, HBE.out⟩
                | true =>
                  go_wp2
                  go_returns
                  exact ⟨_, rfl, ⟨fun _ => rfl, fun h => absurd (HD.out.1 rfl) h⟩, HBE.out⟩
      · have d1 : decide ((1 : Int) ≤ (n : Int)) = true := by simp; omega
        have d2 : decide ((n : Int) ≤ 10) = true := by simp; omega
        have d3 : decide ((m : Int) ≤ 16) = false := by simp; omega
        have HB : Hid (BI false (1 ≤ n ∧ n ≤ 10 ∧ m ≤ 16)) := show _ ↔ _ from ⟨(fun h => by cases h), fun h => absurd h.2.2 b3⟩
        go_enter Tryd.func17, Tryd.ntmps17
        go_wp2
        go_loopw [5, 25] (fun ok i wr => ∃ (b : Bool) (k : Nat), k ≤ n ∧ i = .int .i64 (k : Int) ∧ ok = .bool b ∧ BI b ((1 ≤ n ∧ n ≤ 10 ∧ m ≤ 16) ∧ okF ws k) ∧ Below w.heap.size w wr) (fun _ i _ => n - (intOf i).toNat)
        case atStart => exact ⟨false, 0, by omega, rfl, rfl, BI.zero HB.out (okF_zero ws), Below.refl _ _⟩
        case round =>
          obtain ⟨b, k, hk, rfl, rfl, hb, hbw⟩ := hrel
          have HBW := Lib.hid hbw
          have HBB := Lib.hid hb
          clear hbw hb HB
          by_cases hkn : k < n
          · obtain ⟨t, o, rfl, hcell⟩ := (H.out.below HBW.out).at_ (by omega)
            have ck := hcell k hkn
            obtain ⟨x, hx⟩ : ∃ x, ws.getD k 0 = x := ⟨_, rfl⟩
            rw [hx] at ck
            have HX := Lib.hid hx
            clear hx hcell
            cases b with
            | false =>
              go_wp2
              go_roundw
              case rel => exact ⟨false, k + 1, by omega, by go_num, rfl, HBB.out.off okF_succ, HBW.out.alloc HBW.out.size _⟩
              case measure => simp [intOf]; omega
            | true =>
              by_cases g1 : 1 ≤ x
              · have g1' : decide ((1 : Int) ≤ x) = true := by simpa using g1
                by_cases g2 : x ≤ 1000
                · have g2' : decide (x ≤ 1000) = true := by simpa using g2
                  have HQ := Lib.hid (HBB.out.on okF_succ (by rw [HX.out]; exact ⟨g1, g2⟩))
                  go_wp2
                  go_roundw
                  case rel => exact ⟨true, k + 1, by omega, by go_num, rfl, HQ.out, HBW.out.alloc HBW.out.size _⟩
                  case measure => simp [intOf]; omega
                · have g2' : decide (x ≤ 1000) = false := by simpa using g2
                  have HQ := Lib.hid (HBB.out.bad okF_succ (by rw [HX.out]; exact fun h => g2 h.2))
                  go_wp2
                  go_roundw
                  case rel => exact ⟨false, k + 1, by omega, by go_num, rfl, HQ.out, HBW.out.alloc HBW.out.size _⟩
                  case measure => simp [intOf]; omega
              · have g1' : decide ((1 : Int) ≤ x) = false := by simpa using g1
                have HQ := Lib.hid (HBB.out.bad okF_succ (by rw [HX.out]; exact fun h => g1 h.1))
                go_wp2
                go_roundw
                case rel => exact ⟨false, k + 1, by omega, by go_num, rfl, HQ.out, HBW.out.alloc HBW.out.size _⟩
                case measure => simp [intOf]; omega
          · have hkn2 : k = n := by omega
            subst hkn2
            obtain ⟨W1, hW1⟩ : ∃ W, W = wr := ⟨_, rfl⟩
            subst hW1
            go_wp2
            go_loopw [5, 43] (fun ok i wr => ∃ (b : Bool) (j : Nat), j ≤ m ∧ i = .int .i64 (j : Int) ∧ ok = .bool b ∧ BI b (((1 ≤ k ∧ k ≤ 10 ∧ m ≤ 16) ∧ okF ws k) ∧ okT k ts j) ∧ Below W1.heap.size W1 wr) (fun _ i _ => m - (intOf i).toNat)
            case atStart => exact ⟨b, 0, by omega, rfl, rfl, HBB.out.zero (okT_zero k ts), Below.refl _ _⟩
            case round =>
              clear HBB
              obtain ⟨b, j, hj, rfl, rfl, hb, hbw⟩ := hrel
              have HBX := Lib.hid hbw
              have HBB := Lib.hid hb
              clear hbw hb
              by_cases hjm : j < m
              · obtain ⟨t, o, rfl, hcell⟩ := (H'.out.below (bt HBW.out HBX.out)).at_ (by omega)
                obtain ⟨ck1, A2, n2, c2, ck2, hil⟩ := hcell j hjm
                have HIL := Lib.hid hil
                have hn2 := hil.le
                have hc2 := hil.cap
                obtain ⟨x, hx⟩ : ∃ x, tC ts j = x := ⟨_, rfl⟩
                rw [hx] at ck1
                have HX := Lib.hid hx
                clear hx hcell hil
                cases b with
                | false =>
                  go_wp2
                  go_roundw
                  case rel => exact ⟨false, j + 1, by omega, by go_num, rfl, HBB.out.off okT_succ, HBX.out.alloc HBX.out.size _⟩
                  case measure => simp [intOf]; omega
                | true =>
                  by_cases g1 : 0 ≤ x
                  · have g1' : decide ((0 : Int) ≤ x) = true := by simpa using g1
                    by_cases g2 : x ≤ 1000
                    · have g2' : decide (x ≤ 1000) = true := by simpa using g2
                      go_wp2_with fail
                      refine (rrising_any A2 n2 c2 (tS ts j) (k : Int) _ (HIL.out.below ((Below.refl _ _).alloc (Nat.le_refl _) _))).mono ?_
                      rintro ex w3 ⟨v3, rfl, hv3, hb3⟩
                      have HB3 := Lib.hid ((HBX.out.alloc HBX.out.size _).trans (hb3.mono (Nat.le_trans HBX.out.size (by simp))))
                      clear hb3
                      by_cases g3 : Ris (tS ts j) (k : Int)
                      · rw [ris_t g3] at hv3
                        subst hv3
                        have HQ := Lib.hid (HBB.out.on okT_succ (by rw [HX.out]; exact ⟨⟨g1, g2⟩, g3⟩))
                        clear g3
                        go_wp2
                        go_roundw
                        case rel => exact ⟨true, j + 1, by omega, by go_num, rfl, HQ.out, HB3.out⟩
                        case measure => simp [intOf]; omega
                      · rw [ris_f g3] at hv3
                        subst hv3
                        have HQ := Lib.hid (HBB.out.bad okT_succ (fun h => g3 h.2))
                        clear g3
                        go_wp2
                        go_roundw
                        case rel => exact ⟨false, j + 1, by omega, by go_num, rfl, HQ.out, HB3.out⟩
                        case measure => simp [intOf]; omega
                    · have g2' : decide (x ≤ 1000) = false := by simpa using g2
                      have HQ := Lib.hid (HBB.out.bad okT_succ (by rw [HX.out]; exact fun h => g2 h.1.2))
                      go_wp2
                      go_roundw
                      case rel => exact ⟨false, j + 1, by omega, by go_num, rfl, HQ.out, HBX.out.alloc HBX.out.size _⟩
                      case measure => simp [intOf]; omega
                  · have g1' : decide ((0 : Int) ≤ x) = false := by simpa using g1
                    have HQ := Lib.hid (HBB.out.bad okT_succ (by rw [HX.out]; exact fun h => g1 h.1.1))
                    go_wp2
                    go_roundw
                    case rel => exact ⟨false, j + 1, by omega, by go_num, rfl, HQ.out, HBX.out.alloc HBX.out.size _⟩
                    case measure => simp [intOf]; omega
              · have hjm2 : j = m := by omega
                subst hjm2
                have HC : Hid (∀ b' : Bool, BI b' (((1 ≤ k ∧ k ≤ 10 ∧ j ≤ 16) ∧ okF ws k) ∧ okT k ts j) → BI b' (Cv ws ts)) := fun b' h => by
                  unfold Cv
                  rw [HL.out, HL'.out]
                  exact ⟨fun e => ⟨(h.1 e).1.1, (h.1 e).1.2, (h.1 e).2⟩, fun e => h.2 ⟨⟨e.1, e.2.1⟩, e.2.2⟩⟩
                have HD := Lib.hid (HC.out _ HBB.out)
                have HBE := Lib.hid (bt HBW.out HBX.out)
                clear HC HBB
                cases b with
                | false =>
                  go_wp2
                  go_returns
                  exact ⟨_, rfl, ⟨(fun h => by have := HD.out.2 h; cases this), fun _ => rfl⟩, HBE.out⟩
                | true =>
                  go_wp2
                  go_returns
                  exact ⟨_, rfl, ⟨fun _ => rfl, fun h => absurd (HD.out.1 rfl) h⟩, HBE.out⟩
    · have d1 : decide ((1 : Int) ≤ (n : Int)) = true := by simp; omega
      have d2 : decide ((n : Int) ≤ 10) = false := by simp; omega
      have HB : Hid (BI false (1 ≤ n ∧ n ≤ 10 ∧ m ≤ 16)) := show _ ↔ _ from ⟨(fun h => by cases h), fun h => absurd h.2.1 b2⟩
      go_enter Tryd.func17, Tryd.ntmps17
      go_wp2
      go_loopw [5, 25] (fun ok i wr => ∃ (b : Bool) (k : Nat), k ≤ n ∧ i = .int .i64 (k : Int) ∧ ok = .bool b ∧ BI b ((1 ≤ n ∧ n ≤ 10 ∧ m ≤ 16) ∧ okF ws k) ∧ Below w.heap.size w wr) (fun _ i _ => n - (intOf i).toNat)
      case atStart => exact ⟨false, 0, by omega, rfl, rfl, BI.zero HB.out (okF_zero ws), Below.refl _ _⟩
      case round =>
        obtain ⟨b, k, hk, rfl, rfl, hb, hbw⟩ := hrel
        have HBW := Lib.hid hbw
        have HBB := Lib.hid hb
        clear hbw hb HB
        by_cases hkn : k < n
        · obtain ⟨t, o, rfl, hcell⟩ := (H.out.below HBW.out).at_ (by omega)
          have ck := hcell k hkn
          obtain ⟨x, hx⟩ : ∃ x, ws.getD k 0 = x := ⟨_, rfl⟩
          rw [hx] at ck
          have HX := Lib.hid hx
          clear hx hcell
          cases b with
          | false =>
            go_wp2
            go_roundw
            case rel => exact ⟨false, k + 1, by omega, by go_num, rfl, HBB.out.off okF_succ, HBW.out.alloc HBW.out.size _⟩
            case measure => simp [intOf]; omega
          | true =>
            by_cases g1 : 1 ≤ x
            · have g1' : decide ((1 : Int) ≤ x) = true := by simpa using g1
              by_cases g2 : x ≤ 1000
              · have g2' : decide (x ≤ 1000) = true := by simpa using g2
                have HQ := Lib.hid (HBB.out.on okF_succ (by rw [HX.out]; exact ⟨g1, g2⟩))
                go_wp2
                go_roundw
                case rel => exact ⟨true, k + 1, by omega, by go_num, rfl, HQ.out, HBW.out.alloc HBW.out.size _⟩
                case measure => simp [intOf]; omega
              · have g2' : decide (x ≤ 1000) = false := by simpa using g2
                have HQ := Lib.hid (HBB.out.bad okF_succ (by rw [HX.out]; exact fun h => g2 h.2))
                go_wp2
                go_roundw
                case rel => exact ⟨false, k + 1, by omega, by go_num, rfl, HQ.out, HBW.out.alloc HBW.out.size _⟩
                case measure => simp [intOf]; omega
            · have g1' : decide ((1 : Int) ≤ x) = false := by simpa using g1
              have HQ := Lib.hid (HBB.out.bad okF_succ (by rw [HX.out]; exact fun h => g1 h.1))
              go_wp2
              go_roundw
              case rel => exact ⟨false, k + 1, by omega, by go_num, rfl, HQ.out, HBW.out.alloc HBW.out.size _⟩
              case measure => simp [intOf]; omega
        · have hkn2 : k = n := by omega
          subst hkn2
          obtain ⟨W1, hW1⟩ : ∃ W, W = wr := ⟨_, rfl⟩
          subst hW1
          go_wp2
          go_loopw [5, 43] (fun ok i wr => ∃ (b : Bool) (j : Nat), j ≤ m ∧ i = .int .i64 (j : Int) ∧ ok = .bool b ∧ BI b (((1 ≤ k ∧ k ≤ 10 ∧ m ≤ 16) ∧ okF ws k) ∧ okT k ts j) ∧ Below W1.heap.size W1 wr) (fun _ i _ => m - (intOf i).toNat)
          case atStart => exact ⟨b, 0, by omega, rfl, rfl, HBB.out.zero (okT_zero k ts), Below.refl _ _⟩
          case round =>
            clear HBB
            obtain ⟨b, j, hj, rfl, rfl, hb, hbw⟩ := hrel
            have HBX := Lib.hid hbw
            have HBB := Lib.hid hb
            clear hbw hb
            by_cases hjm : j < m
            · obtain ⟨t, o, rfl, hcell⟩ := (H'.out.below (bt HBW.out HBX.out)).at_ (by omega)
              obtain ⟨ck1, A2, n2, c2, ck2, hil⟩ := hcell j hjm
              have HIL := Lib.hid hil
              have hn2 := hil.le
              have hc2 := hil.cap
              obtain ⟨x, hx⟩ : ∃ x, tC ts j = x := ⟨_, rfl⟩
              rw [hx] at ck1
              have HX := Lib.hid hx
              clear hx hcell hil
              cases b with
              | false =>
                go_wp2
                go_roundw
                case rel => exact ⟨false, j + 1, by omega, by go_num, rfl, HBB.out.off okT_succ, HBX.out.alloc HBX.out.size _⟩
                case measure => simp [intOf]; omega
              | true =>
                by_cases g1 : 0 ≤ x
                · have g1' : decide ((0 : Int) ≤ x) = true := by simpa using g1
                  by_cases g2 : x ≤ 1000
                  · have g2' : decide (x ≤ 1000) = true := by simpa using g2
                    go_wp2_with fail
                    refine (rrising_any A2 n2 c2 (tS ts j) (k : Int) _ (HIL.out.below ((Below.refl _ _).alloc (Nat.le_refl _) _))).mono ?_
                    rintro ex w3 ⟨v3, rfl, hv3, hb3⟩
                    have HB3 := Lib.hid ((HBX.out.alloc HBX.out.size _).trans (hb3.mono (Nat.le_trans HBX.out.size (by simp))))
                    clear hb3
                    by_cases g3 : Ris (tS ts j) (k : Int)
                    · rw [ris_t g3] at hv3
                      subst hv3
                      have HQ := Lib.hid (HBB.out.on okT_succ (by rw [HX.out]; exact ⟨⟨g1, g2⟩, g3⟩))
                      clear g3
                      go_wp2
                      go_roundw
                      case rel => exact ⟨true, j + 1, by omega, by go_num, rfl, HQ.out, HB3.out⟩
                      case measure => simp [intOf]; omega
                    · rw [ris_f g3] at hv3
                      subst hv3
                      have HQ := Lib.hid (HBB.out.bad okT_succ (fun h => g3 h.2))
                      clear g3
                      go_wp2
                      go_roundw
                      case rel => exact ⟨false, j + 1, by omega, by go_num, rfl, HQ.out, HB3.out⟩
                      case measure => simp [intOf]; omega
                  · have g2' : decide (x ≤ 1000) = false := by simpa using g2
                    have HQ := Lib.hid (HBB.out.bad okT_succ (by rw [HX.out]; exact fun h => g2 h.1.2))
                    go_wp2
                    go_roundw
                    case rel => exact ⟨false, j + 1, by omega, by go_num, rfl, HQ.out, HBX.out.alloc HBX.out.size _⟩
                    case measure => simp [intOf]; omega
                · have g1' : decide ((0 : Int) ≤ x) = false := by simpa using g1
                  have HQ := Lib.hid (HBB.out.bad okT_succ (by rw [HX.out]; exact fun h => g1 h.1.1))
                  go_wp2
                  go_roundw
                  case rel => exact ⟨false, j + 1, by omega, by go_num, rfl, HQ.out, HBX.out.alloc HBX.out.size _⟩
                  case measure => simp [intOf]; omega
            · have hjm2 : j = m := by omega
              subst hjm2
              have HC : Hid (∀ b' : Bool, BI b' (((1 ≤ k ∧ k ≤ 10 ∧ j ≤ 16) ∧ okF ws k) ∧ okT k ts j) → BI b' (Cv ws ts)) := fun b' h => by
                unfold Cv
                rw [HL.out, HL'.out]
                exact ⟨fun e => ⟨(h.1 e).1.1, (h.1 e).1.2, (h.1 e).2⟩, fun e => h.2 ⟨⟨e.1, e.2.1⟩, e.2.2⟩⟩
              have HD := Lib.hid (HC.out _ HBB.out)
              have HBE := Lib.hid (bt HBW.out HBX.out)
              clear HC HBB
              cases b with
              | false =>
                go_wp2
                go_returns
                exact ⟨_, rfl, ⟨(fun h => by have := HD.out.2 h; cases this), fun _ => rfl⟩, HBE.out⟩
              | true =>
                go_wp2
                go_returns
                exact ⟨_, rfl, ⟨fun _ => rfl, fun h => absurd (HD.out.1 rfl) h⟩, HBE.out⟩
  · have d1 : decide ((1 : Int) ≤ (n : Int)) = false := by simp; omega
    have HB : Hid (BI false (1 ≤ n ∧ n ≤ 10 ∧ m ≤ 16)) := show _ ↔ _ from ⟨(fun h => by cases h), fun h => absurd h.1 b1⟩
    go_enter Tryd.func17, Tryd.ntmps17
    go_wp2
    go_loopw [5, 25] (fun ok i wr => ∃ (b : Bool) (k : Nat), k ≤ n ∧ i = .int .i64 (k : Int) ∧ ok = .bool b ∧ BI b ((1 ≤ n ∧ n ≤ 10 ∧ m ≤ 16) ∧ okF ws k) ∧ Below w.heap.size w wr) (fun _ i _ => n - (intOf i).toNat)
    case atStart => exact ⟨false, 0, by omega, rfl, rfl, BI.zero HB.out (okF_zero ws), Below.refl _ _⟩
    case round =>
      obtain ⟨b, k, hk, rfl, rfl, hb, hbw⟩ := hrel
      have HBW := Lib.hid hbw
      have HBB := Lib.hid hb
      clear hbw hb HB
      by_cases hkn : k < n
      · exact absurd hkn (by omega)
      · have hkn2 : k = n := by omega
        subst hkn2
        obtain ⟨W1, hW1⟩ : ∃ W, W = wr := ⟨_, rfl⟩
        subst hW1
        go_wp2
        go_loopw [5, 43] (fun ok i wr => ∃ (b : Bool) (j : Nat), j ≤ m ∧ i = .int .i64 (j : Int) ∧ ok = .bool b ∧ BI b (((1 ≤ k ∧ k ≤ 10 ∧ m ≤ 16) ∧ okF ws k) ∧ okT k ts j) ∧ Below W1.heap.size W1 wr) (fun _ i _ => m - (intOf i).toNat)
        case atStart => exact ⟨b, 0, by omega, rfl, rfl, HBB.out.zero (okT_zero k ts), Below.refl _ _⟩
        case round =>
          clear HBB
          obtain ⟨b, j, hj, rfl, rfl, hb, hbw⟩ := hrel
          have HBX := Lib.hid hbw
          have HBB := Lib.hid hb
          clear hbw hb
          by_cases hjm : j < m
          · obtain ⟨t, o, rfl, hcell⟩ := (H'.out.below (bt HBW.out HBX.out)).at_ (by omega)
            obtain ⟨ck1, A2, n2, c2, ck2, hil⟩ := hcell j hjm
            have HIL := Lib.hid hil
            have hn2 := hil.le
            have hc2 := hil.cap
            obtain ⟨x, hx⟩ : ∃ x, tC ts j = x := ⟨_, rfl⟩
            rw [hx] at ck1
            have HX := Lib.hid hx
            clear hx hcell hil
            cases b with
            | false =>
              go_wp2
              go_roundw
              case rel => exact ⟨false, j + 1, by omega, by go_num, rfl, HBB.out.off okT_succ, HBX.out.alloc HBX.out.size _⟩
              case measure => simp [intOf]; omega
            | true =>
              by_cases g1 : 0 ≤ x
              · have g1' : decide ((0 : Int) ≤ x) = true := by simpa using g1
                by_cases g2 : x ≤ 1000
                · have g2' : decide (x ≤ 1000) = true := by simpa using g2
                  go_wp2_with fail
                  refine (rrising_any A2 n2 c2 (tS ts j) (k : Int) _ (HIL.out.below ((Below.refl _ _).alloc (Nat.le_refl _) _))).mono ?_
                  rintro ex w3 ⟨v3, rfl, hv3, hb3⟩
                  have HB3 := Lib.hid ((HBX.out.alloc HBX.out.size _).trans (hb3.mono (Nat.le_trans HBX.out.size (by simp))))
                  clear hb3
                  by_cases g3 : Ris (tS ts j) (k : Int)
                  · rw [ris_t g3] at hv3
                    subst hv3
                    have HQ := Lib.hid (HBB.out.on okT_succ (by rw [HX.out]; exact ⟨⟨g1, g2⟩, g3⟩))
                    clear g3
                    go_wp2
                    go_roundw
                    case rel => exact ⟨true, j + 1, by omega, by go_num, rfl, HQ.out, HB3.out⟩
                    case measure => simp [intOf]; omega
                  · rw [ris_f g3] at hv3
                    subst hv3
                    have HQ := Lib.hid (HBB.out.bad okT_succ (fun h => g3 h.2))
                    clear g3
                    go_wp2
                    go_roundw
                    case rel => exact ⟨false, j + 1, by omega, by go_num, rfl, HQ.out, HB3.out⟩
                    case measure => simp [intOf]; omega
                · have g2' : decide (x ≤ 1000) = false := by simpa using g2
                  have HQ := Lib.hid (HBB.out.bad okT_succ (by rw [HX.out]; exact fun h => g2 h.1.2))
                  go_wp2
                  go_roundw
                  case rel => exact ⟨false, j + 1, by omega, by go_num, rfl, HQ.out, HBX.out.alloc HBX.out.size _⟩
                  case measure => simp [intOf]; omega
              · have g1' : decide ((0 : Int) ≤ x) = false := by simpa using g1
                have HQ := Lib.hid (HBB.out.bad okT_succ (by rw [HX.out]; exact fun h => g1 h.1.1))
                go_wp2
                go_roundw
                case rel => exact ⟨false, j + 1, by omega, by go_num, rfl, HQ.out, HBX.out.alloc HBX.out.size _⟩
                case measure => simp [intOf]; omega
          · have hjm2 : j = m := by omega
            subst hjm2
            have HC : Hid (∀ b' : Bool, BI b' (((1 ≤ k ∧ k ≤ 10 ∧ j ≤ 16) ∧ okF ws k) ∧ okT k ts j) → BI b' (Cv ws ts)) := fun b' h => by
              unfold Cv
              rw [HL.out, HL'.out]
              exact ⟨fun e => ⟨(h.1 e).1.1, (h.1 e).1.2, (h.1 e).2⟩, fun e => h.2 ⟨⟨e.1, e.2.1⟩, e.2.2⟩⟩
            have HD := Lib.hid (HC.out _ HBB.out)
            have HBE := Lib.hid (bt HBW.out HBX.out)
            clear HC HBB
            cases b with
            | false =>
              go_wp2
              go_returns
              exact ⟨_, rfl, ⟨(fun h => by have := HD.out.2 h; cases this), fun _ => rfl⟩, HBE.out⟩
            | true =>
              go_wp2
              go_returns
              exact ⟨_, rfl, ⟨fun _ => rfl, fun h => absurd (HD.out.1 rfl) h⟩, HBE.out⟩
end Go.Proofs.Tb
