/- The reference's Kraft: are lengths those of a code? -/
import Derived.Test.YtcjddfhhofoidaaDoorHoq
set_option linter.unusedVariables false
set_option linter.unusedSimpArgs false
namespace Go.Proofs.Tb
open Go.RowKit
attribute [local go_sem] cell_set_same

open Classical in
noncomputable def krB (xs : List Int) : Bool := decide (KrI xs)
theorem krB_t {xs : List Int} (h : KrI xs) : krB xs = true := by unfold krB; simpa using h
theorem krB_f {xs : List Int} (h : ¬ KrI xs) : krB xs = false := by unfold krB; simpa using h
def mxK (xs : List Int) : Nat → Nat
  | 0 => 0
  | k + 1 => max (mxK xs k) (xs.getD k 0).toNat
def skN (D : Nat) (xs : List Int) : Nat → Nat
  | 0 => 0
  | k + 1 => skN D xs k + 2 ^ (D - (xs.getD k 0).toNat)
def okK (xs : List Int) (k : Nat) : Prop := ∀ j, j < k → 0 ≤ xs.getD j 0 ∧ xs.getD j 0 ≤ 62
theorem okK_zero (xs : List Int) : okK xs 0 := fun j hj => absurd hj (by omega)
theorem okK_succ {xs : List Int} {k : Nat} (h : okK xs k) (hk : 0 ≤ xs.getD k 0 ∧ xs.getD k 0 ≤ 62) : okK xs (k + 1) := fun j hj => by
  rcases Nat.lt_or_eq_of_le (Nat.le_of_lt_succ hj) with h1 | rfl
  · exact h j h1
  · exact hk
theorem mxK_bd {xs : List Int} {k : Nat} (h : okK xs k) : mxK xs k ≤ 62 := by
  induction k with
  | zero => simp [mxK]
  | succ k ih =>
    have h1 := ih fun j hj => h j (by omega)
    have h2 := h k (by omega)
    simp only [mxK]; omega
theorem mxK_ge {xs : List Int} : ∀ {k j : Nat}, j < k → (xs.getD j 0).toNat ≤ mxK xs k := by
  intro k
  induction k with
  | zero => intro j h; omega
  | succ k ih =>
    intro j h
    simp only [mxK]
    rcases Nat.lt_or_eq_of_le (Nat.le_of_lt_succ h) with h1 | rfl
    · have := ih h1; omega
    · omega
theorem skN_mono {D : Nat} {xs : List Int} {k m : Nat} (h : k ≤ m) : skN D xs k ≤ skN D xs m := by
  induction m with
  | zero => rw [Nat.le_zero.1 h]; exact Nat.le_refl _
  | succ m ih =>
    rcases Nat.lt_or_eq_of_le h with h1 | rfl
    · have := ih (by omega)
      exact Nat.le_trans this (Nat.le_add_right _ _)
    · exact Nat.le_refl _
theorem skN_62 {D : Nat} {xs : List Int} (hD : D ≤ 62) : ∀ {k : Nat}, (∀ j, j < k → (xs.getD j 0).toNat ≤ D) → skN 62 xs k = 2 ^ (62 - D) * skN D xs k := by
  intro k
  induction k with
  | zero => intro _; rfl
  | succ k ih =>
    intro h
    have h1 := ih fun j hj => h j (by omega)
    have h2 := h k (by omega)
    simp only [skN]
    rw [h1, Nat.mul_add, ← Nat.pow_add, show 62 - D + (D - (xs.getD k 0).toNat) = 62 - (xs.getD k 0).toNat by omega]
theorem skN_sum (xs : List Int) : (xs.map fun x => 2 ^ (62 - x.toNat)).sum = skN 62 xs xs.length := by
  have h : ∀ n, ((upL n).map fun i => 2 ^ (62 - (wI xs i).toNat)).sum = skN 62 xs n := by
    intro n
    induction n with
    | zero => rfl
    | succ n ih => rw [upL_succ, List.map_append, List.sum_append, ih]; simp [skN, wI]
  rw [← h]
  conv => lhs; rw [list_upL xs]
  rw [List.map_map]; rfl
theorem KrI.okK {xs : List Int} (h : KrI xs) : okK xs xs.length := fun j _ => h.nn j
theorem okK_mem {xs : List Int} (h : okK xs xs.length) : ∀ x ∈ xs, 0 ≤ x ∧ x ≤ 62 := fun x hx => by
  obtain ⟨j, hj, rfl⟩ := List.getElem_of_mem hx
  have := h j hj
  rwa [show xs.getD j 0 = xs[j] by simp [List.getD, hj]] at this
theorem two62 : (2 : Nat) ^ 62 = 4611686018427387904 := by decide
theorem kr_bad {xs : List Int} {k : Nat} (h : okK xs xs.length) (hk : k ≤ xs.length) (hb : 2 ^ mxK xs xs.length < skN (mxK xs xs.length) xs k) : ¬ KrI xs := fun hx => by
  have h1 := hx.2
  rw [skN_sum, skN_62 (mxK_bd h) (fun j hj => mxK_ge hj)] at h1
  have h2 := skN_mono (D := mxK xs xs.length) (xs := xs) hk
  have h3 := Nat.mul_lt_mul_of_lt_of_le (Nat.lt_of_lt_of_le hb h2) (Nat.le_refl (2 ^ (62 - mxK xs xs.length))) (Nat.two_pow_pos _)
  rw [← Nat.pow_add, show mxK xs xs.length + (62 - mxK xs xs.length) = 62 by have := mxK_bd h; omega, Nat.mul_comm] at h3
  omega
theorem kr_good {xs : List Int} (h : okK xs xs.length) (hb : skN (mxK xs xs.length) xs xs.length ≤ 2 ^ mxK xs xs.length) : KrI xs := by
  refine ⟨okK_mem h, ?_⟩
  rw [skN_sum, skN_62 (mxK_bd h) (fun j hj => mxK_ge hj)]
  have h3 := Nat.mul_le_mul_left (2 ^ (62 - mxK xs xs.length)) hb
  rwa [← Nat.pow_add, show 62 - mxK xs xs.length + mxK xs xs.length = 62 by have := mxK_bd h; omega] at h3
theorem pow62 {D : Nat} (h : D ≤ 62) : 2 ^ D ≤ 4611686018427387904 := by
  rw [← two62]; exact Nat.pow_le_pow_right (by omega) h
/-- What is left after k lengths. -/
def lfK (xs : List Int) (D k : Nat) : Int := ((2 ^ D : Nat) : Int) - (skN D xs k : Nat)
theorem lfK_succ {xs : List Int} {D k : Nat} (hD : D ≤ 62) (h0 : 0 ≤ lfK xs D k) : wrap64 (lfK xs D k - ((2 ^ (D - (xs.getD k 0).toNat) : Nat) : Int)) = lfK xs D (k + 1) := by
  have h1 := pow62 hD
  have h2 : 2 ^ (D - (xs.getD k 0).toNat) ≤ 4611686018427387904 := pow62 (by omega)
  unfold lfK at *
  simp only [skN]
  generalize 2 ^ D = a at *
  generalize 2 ^ (D - (xs.getD k 0).toNat) = b at *
  unfold wrap64
  omega
set_option maxHeartbeats 3200000 in
set_option maxRecDepth 100000 in
theorem zkraft_any (A : Option Addr) (n c : Nat) (xs : List Int) (w : World) (h : Il w A n c xs) :
    Calls Tryd.prog 32 #[.slice A n c] w (Ret (fun v _ => v = .bool (krB xs)) w) := by
  have hn := h.le
  have hc := h.cap
  have HL := Lib.hid h.len
  have H := Lib.hid h
  clear h
  go_enter Tryd.func32, Tryd.ntmps32
  go_wp2_with fail
  go_loopw [3, 4] (fun d i wr => ∃ k : Nat, k ≤ n ∧ d = .int .i64 (mxK xs k : Nat) ∧ i = .int .i64 (k : Int) ∧ okK xs k ∧ Below w.heap.size w wr) (fun _ i _ => n - (intOf i).toNat)
  case atStart => exact ⟨0, by omega, rfl, rfl, okK_zero xs, Below.refl _ _⟩
  case round =>
    obtain ⟨k, hk, rfl, rfl, hr, hbw⟩ := hrel
    have HBW := Lib.hid hbw
    have HR := Lib.hid hr
    clear hbw hr
    by_cases hkn : k < n
    · have g1 : decide ((k : Int) < (n : Int)) = true := by simp; omega
      have g1' : decide (k < n) = true := by simp; omega
      obtain ⟨b, o, rfl, hcell⟩ := (H.out.below HBW.out).at_ (by omega)
      have ck := hcell k hkn
      obtain ⟨x, hx⟩ : ∃ x, xs.getD k 0 = x := ⟨_, rfl⟩
      rw [hx] at ck
      have HX := Lib.hid hx
      clear hcell hx
      go_wp2_with fail
      refine (zin_any x 0 62 _).mono ?_
      rintro e w2 ⟨rfl, rfl⟩
      by_cases g2 : 0 ≤ x ∧ x ≤ 62
      · rw [inB_t g2.1 g2.2]
        have HN := Lib.hid (okK_succ HR.out (by rw [HX.out]; exact g2))
        have hm : mxK xs (k + 1) = max (mxK xs k) x.toNat := by simp only [mxK]; rw [HX.out]
        obtain ⟨y, hye⟩ : ∃ y : Nat, x = (y : Int) := ⟨x.toNat, by omega⟩
        rw [hye, Int.toNat_natCast] at hm
        have HM := Lib.hid (show Value.int .i64 (max (mxK xs k : Int) (y : Int)) = .int .i64 ((mxK xs (k + 1) : Nat) : Int) by rw [hm]; congr 1; omega)
        clear hm
        subst hye
        clear g2
        go_wp2
        go_roundw
        case rel => exact ⟨k + 1, by omega, HM.out, by go_num, HN.out, HBW.out⟩
        case measure => simp [intOf]; omega
      · rw [inB_f g2]
        have HQ := Lib.hid (krB_f (xs := xs) (fun h => g2 (by rw [← HX.out]; exact h.nn k)))
        clear g2
        go_wp2
        go_returns
        exact ⟨_, rfl, by rw [HQ.out]; rfl, HBW.out⟩
    · have hkn2 : k = n := by omega
      subst hkn2
      have hok := HR.out
      have hl := HL.out
      have hD := mxK_bd HR.out
      obtain ⟨D, hDe⟩ : ∃ D, mxK xs k = D := ⟨_, rfl⟩
      rw [hDe] at hD ⊢
      have HD := Lib.hid hDe
      obtain ⟨q, hq⟩ : ∃ q, 2 ^ D = q := ⟨_, rfl⟩
      have hq2 := pow62 hD
      rw [hq] at hq2
      have hw : wrap64 ((2 : Int) ^ D) = (q : Int) := wrap_pow D q hq (by omega)
      have HQ := Lib.hid hq
      have h0 : (q : Int) = lfK xs D 0 := by unfold lfK skN; rw [hq]; omega
      have H0 := Lib.hid h0
      clear hDe hq hok h0
      go_wp2_with fail
      go_loopw [5, 6] (fun l i wr => ∃ j : Nat, j ≤ k ∧ l = .int .i64 (lfK xs D j) ∧ i = .int .i64 (j : Int) ∧ 0 ≤ lfK xs D j ∧ Below w.heap.size w wr) (fun _ i _ => k - (intOf i).toNat)
      case atStart => exact ⟨0, by omega, by rw [← H0.out, hw], rfl, by rw [← H0.out]; omega, HBW.out⟩
      case round =>
        clear HBW
        obtain ⟨j, hj, rfl, rfl, h0, hbw⟩ := hrel
        have HBW := Lib.hid hbw
        have H1 := Lib.hid h0
        clear hbw
        by_cases hjk : j < k
        · have g1 : decide ((j : Int) < (k : Int)) = true := by simp; omega
          have g1' : decide (j < k) = true := by simp; omega
          obtain ⟨b, o, rfl, hcell⟩ := (H.out.below HBW.out).at_ (by omega)
          have ck := hcell j hjk
          have hx := HR.out j hjk
          have hm := mxK_ge (xs := xs) hjk
          rw [HD.out] at hm
          have hs := lfK_succ (xs := xs) (k := j) hD h0
          obtain ⟨x, hxe⟩ : ∃ x : Nat, xs.getD j 0 = (x : Int) := ⟨(xs.getD j 0).toNat, by omega⟩
          rw [hxe, Int.toNat_natCast] at hm hs
          rw [hxe] at ck
          obtain ⟨d, hd⟩ : ∃ d, D - x = d := ⟨_, rfl⟩
          rw [hd] at hs
          have hd' : (D : Int) - (x : Int) = (d : Int) := by omega
          obtain ⟨p, hp⟩ : ∃ p, 2 ^ d = p := ⟨_, rfl⟩
          rw [hp] at hs
          have hp2 := pow62 (D := d) (by omega)
          rw [hp] at hp2
          have hwp : wrap64 ((2 : Int) ^ d) = (p : Int) := wrap_pow d p hp (by omega)
          have hwd : wrap64 ((D : Int) - (x : Int)) = (d : Int) := by rw [hd']; unfold wrap64; omega
          obtain ⟨L, hL⟩ : ∃ L, lfK xs D j = L := ⟨_, rfl⟩
          obtain ⟨L', hL'⟩ : ∃ L, lfK xs D (j + 1) = L := ⟨_, rfl⟩
          rw [hL, hL'] at hs
          rw [hL]
          have HL2 := Lib.hid hL'
          have hmn : min d 64 = d := by omega
          clear hcell hx hm hxe hd hp hL h0 hd' hp2
          by_cases hl0 : L' < 0
          · have g2 : decide (L' < 0) = true := by simpa using hl0
            have HE := Lib.hid (krB_f (kr_bad (xs := xs) (k := j + 1) (by rw [HL.out]; exact HR.out) (by rw [HL.out]; omega) (by rw [HL.out, HD.out]; unfold lfK at hL'; omega)))
            clear hL'
            go_wp2
            go_returns
            exact ⟨_, rfl, by rw [HE.out]; rfl, HBW.out⟩
          · have g2 : decide (L' < 0) = false := by simpa using hl0
            clear hL'
            go_wp2
            go_roundw
            case rel => exact ⟨j + 1, by omega, by rw [HL2.out]; simp only [hs], by go_num, by rw [HL2.out]; omega, HBW.out⟩
            case measure => simp [intOf]; omega
        · have hjk2 : j = k := by omega
          subst hjk2
          have HE := Lib.hid (krB_t (kr_good (xs := xs) (by rw [HL.out]; exact HR.out) (by rw [HL.out, HD.out]; have h1 := H1.out; unfold lfK at h1; omega)))
          clear h0
          go_wp2
          go_returns
          exact ⟨_, rfl, by rw [HE.out]; rfl, HBW.out⟩
end Go.Proofs.Tb
