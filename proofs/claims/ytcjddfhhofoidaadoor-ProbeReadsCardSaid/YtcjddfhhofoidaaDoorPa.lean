/- Integers and tests in memory; contracts of small functions of package probe and of its reference. -/
import Derived.Test.YtcjddfhhofoidaaDoorProg
import Derived.Test.YtcjddfhhofoidaaDoorRow
import Derived.Test.YtcjddfhhofoidaaDoorBst
import Derived.Test.YtcjddfhhofoidaaDoorAdvE
import Derived.Deep.DeepCutAuto
set_option linter.unusedVariables false
set_option linter.unusedSimpArgs false
namespace Go.Proofs.Tb
open Go.RowKit
attribute [local go_sem] cell_set_same

theorem Ext.below {a w w' : World} (h : Ext a w) (hb : Below w.heap.size w w') : Ext a w' := bt h hb
theorem Ext.cell {a w : World} (h : Ext a w) {p : Addr} {v : Value} (hv : a.cell? p = some v) : w.cell? p = some v := (Below.cell h (World.block_lt_of_cell? a _ hv)).trans hv
theorem ret_bool {a b : Bool} (h : a = b) : Ending.returned (.bool a) = .returned (.bool b) := by rw [h]
def rngI (x : Int) : Prop := -9223372036854775808 ≤ x ∧ x ≤ 9223372036854775807
/-- The slice '.slice A n c' reads as the integers xs. -/
structure Il (w : World) (A : Option Addr) (n c : Nat) (xs : List Int) : Prop where
  len : xs.length = n
  le : n ≤ c
  cap : c ≤ 9223372036854775807
  at_ : 0 < n → ∃ b o, A = some ⟨b, o, none⟩ ∧ ∀ j, j < n → w.cell? ⟨b, o + j, none⟩ = some (.int .i64 (xs.getD j 0))
theorem Il.below {w w' : World} {A : Option Addr} {n c : Nat} {xs : List Int} (h : Il w A n c xs) (hb : Below w.heap.size w w') : Il w' A n c xs := by
  refine ⟨h.len, h.le, h.cap, fun hn => ?_⟩
  obtain ⟨b, o, hA, hc⟩ := h.at_ hn
  refine ⟨b, o, hA, fun j hj => ?_⟩
  have h1 := hc j hj
  exact (hb.cell (p := ⟨b, o + j, none⟩) (World.block_lt_of_cell? w _ h1)).trans h1
theorem Il.nil (w : World) : Il w none 0 0 [] := ⟨rfl, Nat.le_refl _, by omega, fun h => absurd h (by omega)⟩
/-- Rising numbers below a limit. -/
def prv (xs : List Int) (k : Nat) : Int := if k = 0 then -1 else xs.getD (k - 1) 0
theorem prv_zero (xs : List Int) : prv xs 0 = -1 := rfl
theorem prv_succ (xs : List Int) (k : Nat) : prv xs (k + 1) = xs.getD k 0 := by unfold prv; rw [if_neg (by omega), Nat.add_sub_cancel]
def Ris (xs : List Int) (lim : Int) : Prop := ∀ k, k < xs.length → prv xs k < xs.getD k 0 ∧ xs.getD k 0 < lim
open Classical in
noncomputable def ris (xs : List Int) (lim : Int) : Bool := decide (Ris xs lim)
theorem ris_t {xs : List Int} {lim : Int} (h : Ris xs lim) : ris xs lim = true := by unfold ris; simpa using h
theorem ris_f {xs : List Int} {lim : Int} (h : ¬ Ris xs lim) : ris xs lim = false := by unfold ris; simpa using h
set_option maxHeartbeats 1600000 in
theorem rrising_any (A : Option Addr) (n c : Nat) (xs : List Int) (lim : Int) (w : World) (h : Il w A n c xs) :
    Calls Tryd.prog 47 #[.slice A n c, .int .i64 lim] w (Ret (fun v _ => v = .bool (ris xs lim)) w) := by
  have hn := h.le
  have hc := h.cap
  have HL := Lib.hid h.len
  have H := Lib.hid h
  clear h
  go_enter Tryd.func47, Tryd.ntmps47
  go_wp2
  go_loopw [5, 10] (fun l i wr => ∃ k : Nat, k ≤ n ∧ i = .int .i64 (k : Int) ∧ l = .int .i64 (prv xs k) ∧ (∀ j, j < k → prv xs j < xs.getD j 0 ∧ xs.getD j 0 < lim) ∧ Below w.heap.size w wr) (fun _ i _ => n - (intOf i).toNat)
  case atStart => exact ⟨0, by omega, rfl, rfl, fun j hj => absurd hj (by omega), Below.refl _ _⟩
  case round =>
    obtain ⟨k, hk, rfl, rfl, hr, hbw⟩ := hrel
    have HBW := Lib.hid hbw
    clear hbw
    have HR := Lib.hid hr
    clear hr
    by_cases hkn : k < n
    · obtain ⟨b, o, rfl, hcell⟩ := (H.out.below HBW.out).at_ (by omega)
      have ck := hcell k hkn
      obtain ⟨x, hx⟩ : ∃ x, xs.getD k 0 = x := ⟨_, rfl⟩
      obtain ⟨p, hp⟩ : ∃ x, prv xs k = x := ⟨_, rfl⟩
      rw [hx] at ck
      rw [hp]
      by_cases h1 : p < x
      · have d1 : decide (x ≤ p) = false := by simp; omega
        by_cases h2 : x < lim
        · have d2 : decide (lim ≤ x) = false := by simp; omega
          have hN : ∀ j, j < k + 1 → prv xs j < xs.getD j 0 ∧ xs.getD j 0 < lim := fun j hj => by
            rcases Nat.lt_or_eq_of_le (Nat.le_of_lt_succ hj) with h | rfl
            · exact HR.out j h
            · rw [hx, hp]; exact ⟨h1, h2⟩
          have hpx : prv xs (k + 1) = x := by rw [prv_succ, hx]
          have HN := Lib.hid hN
          have HPX := Lib.hid hpx
          clear hN hpx hcell hx hp HR
          go_wp2
          go_roundw
          case rel => exact ⟨k + 1, by omega, by go_num, by rw [HPX.out], HN.out, HBW.out⟩
          case measure => simp [intOf]; omega
        · have d2 : decide (lim ≤ x) = true := by simp; omega
          have HF := Lib.hid (ris_f (xs := xs) (lim := lim) (fun h => by have := (h k (by rw [HL.out]; exact hkn)).2; rw [hx] at this; omega))
          clear hcell hx hp
          go_wp2
          go_returns
          exact ⟨_, rfl, by rw [HF.out]; rfl, HBW.out⟩
      · have d1 : decide (x ≤ p) = true := by simp; omega
        have HF := Lib.hid (ris_f (xs := xs) (lim := lim) (fun h => by have := (h k (by rw [HL.out]; exact hkn)).1; rw [hx, hp] at this; omega))
        clear hcell hx hp
        go_wp2
        go_returns
        exact ⟨_, rfl, by rw [HF.out]; rfl, HBW.out⟩
    · have hkn2 : k = n := by omega
      subst hkn2
      have HT := Lib.hid (ris_t (xs := xs) (lim := lim) (fun j hj => HR.out j (by rw [← HL.out]; exact hj)))
      clear HR
      go_wp2
      go_returns
      exact ⟨_, rfl, by rw [HT.out]; rfl, HBW.out⟩

/-- Sets of numbers as bits, in the machine's integers. -/
theorem i64_and (x y : Nat) (hx : x < 9223372036854775808) (hy : y < 9223372036854775808) : bits .and .i64 (x : Int) (y : Int) = ((x &&& y : Nat) : Int) := by
  have e : bits .and .i64 (x : Int) (y : Int) = IntKind.i64.wrap ((BitVec.ofInt 64 (x : Int) &&& BitVec.ofInt 64 (y : Int)).toNat : Int) := rfl
  have h : (BitVec.ofInt 64 (x : Int) &&& BitVec.ofInt 64 (y : Int)).toNat = x &&& y := by
    rw [BitVec.ofInt_natCast, BitVec.ofInt_natCast, BitVec.toNat_and, BitVec.toNat_ofNat, BitVec.toNat_ofNat, Nat.mod_eq_of_lt (by omega), Nat.mod_eq_of_lt (by omega)]
  have hle : x &&& y ≤ x := Nat.and_le_left
  rw [e, h, IntWalk.i64_in _ (by omega)]
theorem i64_or (x y : Nat) (hx : x < 4611686018427387904) (hy : y < 4611686018427387904) : bits .or .i64 (x : Int) (y : Int) = ((x ||| y : Nat) : Int) := by
  have e : bits .or .i64 (x : Int) (y : Int) = IntKind.i64.wrap ((BitVec.ofInt 64 (x : Int) ||| BitVec.ofInt 64 (y : Int)).toNat : Int) := rfl
  have h : (BitVec.ofInt 64 (x : Int) ||| BitVec.ofInt 64 (y : Int)).toNat = x ||| y := by
    rw [BitVec.ofInt_natCast, BitVec.ofInt_natCast, BitVec.toNat_or, BitVec.toNat_ofNat, BitVec.toNat_ofNat, Nat.mod_eq_of_lt (by omega), Nat.mod_eq_of_lt (by omega)]
  have hlt : x ||| y < 2 ^ 62 := Nat.or_lt_two_pow (by omega) (by omega)
  rw [e, h, IntWalk.i64_in _ (by omega)]
theorem i64_andNot (x y : Nat) (hx : x < 9223372036854775808) (hy : y < 9223372036854775808) : bits .andNot .i64 (x : Int) (y : Int) = ((outs x y : Nat) : Int) := by
  have e : bits .andNot .i64 (x : Int) (y : Int) = IntKind.i64.wrap ((BitVec.ofInt 64 (x : Int) &&& ~~~ BitVec.ofInt 64 (y : Int)).toNat : Int) := rfl
  have h : (BitVec.ofInt 64 (x : Int) &&& ~~~ BitVec.ofInt 64 (y : Int)).toNat = outs x y := by
    apply Nat.eq_of_testBit_eq
    intro i
    rw [BitVec.ofInt_natCast, BitVec.ofInt_natCast, BitVec.testBit_toNat, BitVec.getLsbD_and, BitVec.getLsbD_not, BitVec.getLsbD_ofNat, BitVec.getLsbD_ofNat, outs_bit]
    by_cases hi : i < 64
    · simp [hi]
    · have : x.testBit i = false := Nat.testBit_lt_two_pow (Nat.lt_of_lt_of_le (show x < 2 ^ 64 by omega) (Nat.pow_le_pow_right (by omega) (by omega)))
      simp [hi, this]
  have hle := outs_le x y
  rw [e, h, IntWalk.i64_in _ (by omega)]
theorem i64_bit (s i : Nat) (hs : s < 9223372036854775808) : bits .and .i64 ((s : Int) / 2 ^ i) 1 = if s.testBit i then 1 else 0 := by
  have e1 : (s : Int) / 2 ^ i = ((s / 2 ^ i : Nat) : Int) := by simp
  have hle : s / 2 ^ i ≤ s := Nat.div_le_self _ _
  rw [e1]
  have h := i64_and (s / 2 ^ i) 1 (by omega) (by omega)
  have h1 : ((1 : Nat) : Int) = 1 := rfl
  rw [h1] at h
  rw [h, Nat.and_one_is_mod, Nat.testBit_eq_decide_div_mod_eq]
  rcases Nat.mod_two_eq_zero_or_one (s / 2 ^ i) with h2 | h2 <;> simp [h2]
/-- The set of the first k numbers. -/
def setK (xs : List Int) : Nat → Nat
  | 0 => 0
  | k + 1 => setK xs k ||| 2 ^ (xs.getD k 0).toNat
theorem wrap_pow (m q : Nat) (hq : 2 ^ m = q) (h : q < 9223372036854775808) : wrap64 ((2 : Int) ^ m) = (q : Int) := by
  have e : (2 : Int) ^ m = ((2 ^ m : Nat) : Int) := by simp
  rw [e, hq]
  unfold wrap64
  omega
theorem setK_lt (xs : List Int) (hx : ∀ k, k < xs.length → 0 ≤ xs.getD k 0 ∧ xs.getD k 0 < 60) : ∀ k, k ≤ xs.length → setK xs k < 1152921504606846976 := by
  have p60 : (2 : Nat) ^ 60 = 1152921504606846976 := by decide
  rw [← p60]
  intro k
  induction k with
  | zero => intro _; simp [setK]
  | succ k ih =>
    intro hk
    have := hx k (by omega)
    exact Nat.or_lt_two_pow (ih (by omega)) (Nat.pow_lt_pow_right (by omega) (by omega))
set_option maxHeartbeats 1600000 in
theorem rset_any (A : Option Addr) (n c : Nat) (xs : List Int) (w : World) (h : Il w A n c xs) (hx : ∀ k, k < n → 0 ≤ xs.getD k 0 ∧ xs.getD k 0 < 60) :
    Calls Tryd.prog 69 #[.slice A n c] w (Ret (fun v _ => v = .int .i64 (setK xs n : Nat)) w) := by
  have hn := h.le
  have hc := h.cap
  have HL := Lib.hid h.len
  have H := Lib.hid h
  have HX := Lib.hid hx
  clear h hx
  go_enter Tryd.func69, Tryd.ntmps69
  go_wp2
  go_loopw [3, 8] (fun s i wr => ∃ k : Nat, k ≤ n ∧ i = .int .i64 (k : Int) ∧ s = .int .i64 (setK xs k : Nat) ∧ Below w.heap.size w wr) (fun _ i _ => n - (intOf i).toNat)
  case atStart => exact ⟨0, by omega, rfl, rfl, Below.refl _ _⟩
  case round =>
    obtain ⟨k, hk, rfl, rfl, hbw⟩ := hrel
    have HBW := Lib.hid hbw
    clear hbw
    by_cases hkn : k < n
    · obtain ⟨b, o, rfl, hcell⟩ := (H.out.below HBW.out).at_ (by omega)
      have ck := hcell k hkn
      obtain ⟨x1, x2⟩ := HX.out k hkn
      obtain ⟨m, hm⟩ : ∃ m : Nat, xs.getD k 0 = (m : Int) := ⟨(xs.getD k 0).toNat, by omega⟩
      have hsl := setK_lt xs (fun j hj => HX.out j (by rw [← HL.out]; exact hj)) k (by rw [HL.out]; exact hk)
      have hs2 : setK xs (k + 1) = setK xs k ||| 2 ^ m := by show setK xs k ||| 2 ^ (xs.getD k 0).toNat = _; rw [hm]; rfl
      rw [hm] at ck x1 x2
      have hp : (2 : Nat) ^ m < 1152921504606846976 := Nat.lt_of_lt_of_eq (Nat.pow_lt_pow_right (by omega) (show m < 60 by omega)) (by decide)
      obtain ⟨q, hq⟩ : ∃ q, (2 : Nat) ^ m = q := ⟨_, rfl⟩
      rw [hq] at hp hs2
      have wp := wrap_pow m q hq (Nat.lt_trans hp (by decide))
      have wq := i64_or (setK xs k) q (Nat.lt_trans hsl (by decide)) (Nat.lt_trans hp (by decide))
      obtain ⟨S, hS⟩ : ∃ s, setK xs k = s := ⟨_, rfl⟩
      rw [hS] at wq hs2 ⊢
      have HS2 := Lib.hid hs2
      clear hcell hm hs2 hsl hS hq hp
      go_wp2
      go_roundw
      case rel => exact ⟨k + 1, by omega, by go_num, by rw [HS2.out, ← wq], HBW.out⟩
      case measure => simp [intOf]; omega
    · have hkn2 : k = n := by omega
      subst hkn2
      go_wp2
      go_returns
      exact ⟨_, rfl, rfl, HBW.out⟩
/-! ### The reference -/
def inB (v l h : Int) : Bool := decide (l ≤ v) && decide (v ≤ h)
theorem inB_t {v l h : Int} (h1 : l ≤ v) (h2 : v ≤ h) : inB v l h = true := by unfold inB; simp [h1, h2]
theorem inB_f {v l h : Int} (h1 : ¬ (l ≤ v ∧ v ≤ h)) : inB v l h = false := by unfold inB; simp; omega
theorem zin_any (v l h : Int) (w : World) : Calls Tryd.prog 57 #[.int .i64 v, .int .i64 l, .int .i64 h] w fun e w' => e = .returned (.bool (inB v l h)) ∧ w' = w := by
  by_cases h1 : l ≤ v
  · by_cases h2 : v ≤ h
    · have d2 : decide (v ≤ h) = true := by simpa using h2
      have HE := Lib.hid (inB_t h1 h2)
      go_enter Tryd.func57, Tryd.ntmps57
      go_wp2
      go_returns
      exact ⟨ret_bool HE.out.symm, rfl⟩
    · have d2 : decide (v ≤ h) = false := by simpa using h2
      have HE := Lib.hid (inB_f (v := v) (l := l) (h := h) (by omega))
      go_enter Tryd.func57, Tryd.ntmps57
      go_wp2
      go_returns
      exact ⟨ret_bool HE.out.symm, rfl⟩
  · have d1 : decide (l ≤ v) = false := by simpa using h1
    have HE := Lib.hid (inB_f (v := v) (l := l) (h := h) (by omega))
    go_enter Tryd.func57, Tryd.ntmps57
    go_wp2
    go_returns
    exact ⟨ret_bool HE.out.symm, rfl⟩
/-- Two lists of numbers are the same. -/
def sameB (xs ys : List Int) : Bool := decide (xs = ys)
theorem sameB_t {xs ys : List Int} (h : xs = ys) : sameB xs ys = true := by unfold sameB; simpa using h
theorem sameB_f {xs ys : List Int} (h : xs ≠ ys) : sameB xs ys = false := by unfold sameB; simpa using h
theorem list_same {xs ys : List Int} (hl : xs.length = ys.length) (h : ∀ j, j < xs.length → xs.getD j 0 = ys.getD j 0) : xs = ys := by
  apply List.ext_getElem hl
  intro j h1 h2
  have := h j h1
  simpa [List.getD, h1, h2] using this
set_option maxHeartbeats 1600000 in
theorem zsame_any (A B : Option Addr) (n c m d : Nat) (xs ys : List Int) (w : World) (h : Il w A n c xs) (k : Il w B m d ys) :
    Calls Tryd.prog 51 #[.slice A n c, .slice B m d] w (Ret (fun v _ => v = .bool (sameB xs ys)) w) := by
  have hn := h.le
  have hc := h.cap
  have hm := k.le
  have hd := k.cap
  have H := Lib.hid h
  have K := Lib.hid k
  have HL := Lib.hid h.len
  have KL := Lib.hid k.len
  clear h k
  by_cases hnm : n = m
  rotate_left
  · have g0 : ((n : Int) != (m : Int)) = true := by rw [bne_iff_ne]; omega
    have g0' : ((n : Int) == (m : Int)) = false := by rw [beq_eq_false_iff_ne]; omega
    have HF := Lib.hid (sameB_f (xs := xs) (ys := ys) (fun e => hnm (by rw [← HL.out, ← KL.out, e])))
    clear hnm
    go_enter Tryd.func51, Tryd.ntmps51
    go_wp2
    go_returns
    exact ⟨_, rfl, by rw [HF.out]; rfl, Below.refl _ _⟩
  · subst hnm
    have g0 : ((n : Int) != (n : Int)) = false := by simp
    have g0' : ((n : Int) == (n : Int)) = true := by simp
    go_enter Tryd.func51, Tryd.ntmps51
    go_wp2
    go_loopw [5] (fun i wr => ∃ k : Nat, k ≤ n ∧ i = .int .i64 k ∧ (∀ j, j < k → xs.getD j 0 = ys.getD j 0) ∧ Below w.heap.size w wr) (fun i _ => n - (intOf i).toNat)
    case atStart => exact ⟨0, Nat.zero_le _, rfl, fun j hj => absurd hj (by omega), Below.refl _ _⟩
    case round =>
      obtain ⟨k, hk, rfl, heq, hbw⟩ := hrel
      have HEQ := Lib.hid heq
      have HBW := Lib.hid hbw
      clear heq hbw
      by_cases hkn : k < n
      · have g1 : decide ((k : Int) < (n : Int)) = true := by simp; omega
        have p1 : (k : Int) < (n : Int) := by omega
        obtain ⟨b1, o1, rfl, hc1⟩ := (H.out.below HBW.out).at_ (by omega)
        obtain ⟨b2, o2, rfl, hc2⟩ := (K.out.below HBW.out).at_ (by omega)
        have c1 := hc1 k hkn
        have c2 := hc2 k hkn
        clear hc1 hc2
        obtain ⟨u, hu⟩ : ∃ u, xs.getD k 0 = u := ⟨_, rfl⟩
        obtain ⟨v, hv⟩ : ∃ u, ys.getD k 0 = u := ⟨_, rfl⟩
        rw [hu] at c1
        rw [hv] at c2
        have HU := Lib.hid hu
        have HVV := Lib.hid hv
        clear hu hv
        have HB2 : Hid (∀ nq, Below w.heap.size w (wr.drewN nq)) := fun nq => below_drewN HBW.out nq
        by_cases huv : u = v
        · subst huv
          have g2 : (u != u) = false := by simp
          have g2' : (u == u) = true := by simp
          go_wp2
          go_quiet (fail)
          go_wp2
          go_roundw
          case rel => exact ⟨k + 1, by omega, by go_num, fun j hj => by rcases Nat.lt_or_eq_of_le (Nat.le_of_lt_succ hj) with h | h; exact HEQ.out j h; rw [h, HU.out, HVV.out], HB2.out _⟩
          case measure => simp [intOf]; omega
        · have g2 : (u != v) = true := by rw [bne_iff_ne]; exact huv
          have g2' : (u == v) = false := by rw [beq_eq_false_iff_ne]; exact huv
          have HF := Lib.hid (sameB_f (xs := xs) (ys := ys) (fun e => huv (by rw [← HU.out, ← HVV.out, e])))
          clear huv
          go_wp2
          go_quiet (fail)
          go_wp2
          go_returns
          exact ⟨_, rfl, by rw [HF.out]; rfl, HB2.out _⟩
      · have g1 : decide ((k : Int) < (n : Int)) = false := by simp; omega
        have : k = n := by omega
        subst this
        have HT := Lib.hid (sameB_t (xs := xs) (ys := ys) (List.ext_getElem (by rw [HL.out, KL.out]) (fun j h1 h2 => by have := HEQ.out j (by have := HL.out; omega); simpa [List.getD, h1, h2] using this)))
        go_wp2
        go_returns
        exact ⟨_, rfl, by rw [HT.out]; rfl, HBW.out⟩

set_option maxHeartbeats 1600000 in
theorem lsame_any (A B : Option Addr) (n c m d : Nat) (xs ys : List Int) (w : World) (h : Il w A n c xs) (k : Il w B m d ys) :
    Calls Tryd.prog 28 #[.slice A n c, .slice B m d] w (Ret (fun v _ => v = .bool (sameB xs ys)) w) := by
  have hn := h.le
  have hc := h.cap
  have hm := k.le
  have hd := k.cap
  have H := Lib.hid h
  have K := Lib.hid k
  have HL := Lib.hid h.len
  have KL := Lib.hid k.len
  clear h k
  by_cases hnm : n = m
  rotate_left
  · have g0 : ((n : Int) != (m : Int)) = true := by rw [bne_iff_ne]; omega
    have g0' : ((n : Int) == (m : Int)) = false := by rw [beq_eq_false_iff_ne]; omega
    have HF := Lib.hid (sameB_f (xs := xs) (ys := ys) (fun e => hnm (by rw [← HL.out, ← KL.out, e])))
    clear hnm
    go_enter Tryd.func28, Tryd.ntmps28
    go_wp2
    go_returns
    exact ⟨_, rfl, by rw [HF.out]; rfl, Below.refl _ _⟩
  · subst hnm
    have g0 : ((n : Int) != (n : Int)) = false := by simp
    have g0' : ((n : Int) == (n : Int)) = true := by simp
    go_enter Tryd.func28, Tryd.ntmps28
    go_wp2
    go_loopw [5] (fun i wr => ∃ k : Nat, k ≤ n ∧ i = .int .i64 k ∧ (∀ j, j < k → xs.getD j 0 = ys.getD j 0) ∧ Below w.heap.size w wr) (fun i _ => n - (intOf i).toNat)
    case atStart => exact ⟨0, Nat.zero_le _, rfl, fun j hj => absurd hj (by omega), Below.refl _ _⟩
    case round =>
      obtain ⟨k, hk, rfl, heq, hbw⟩ := hrel
      have HEQ := Lib.hid heq
      have HBW := Lib.hid hbw
      clear heq hbw
      by_cases hkn : k < n
      · have g1 : decide ((k : Int) < (n : Int)) = true := by simp; omega
        have p1 : (k : Int) < (n : Int) := by omega
        obtain ⟨b1, o1, rfl, hc1⟩ := (H.out.below HBW.out).at_ (by omega)
        obtain ⟨b2, o2, rfl, hc2⟩ := (K.out.below HBW.out).at_ (by omega)
        have c1 := hc1 k hkn
        have c2 := hc2 k hkn
        clear hc1 hc2
        obtain ⟨u, hu⟩ : ∃ u, xs.getD k 0 = u := ⟨_, rfl⟩
        obtain ⟨v, hv⟩ : ∃ u, ys.getD k 0 = u := ⟨_, rfl⟩
        rw [hu] at c1
        rw [hv] at c2
        have HU := Lib.hid hu
        have HVV := Lib.hid hv
        clear hu hv
        have HB2 : Hid (∀ nq, Below w.heap.size w (wr.drewN nq)) := fun nq => below_drewN HBW.out nq
        by_cases huv : u = v
        · subst huv
          have g2 : (u != u) = false := by simp
          have g2' : (u == u) = true := by simp
          go_wp2
          go_quiet (fail)
          go_wp2
          go_roundw
          case rel => exact ⟨k + 1, by omega, by go_num, fun j hj => by rcases Nat.lt_or_eq_of_le (Nat.le_of_lt_succ hj) with h | h; exact HEQ.out j h; rw [h, HU.out, HVV.out], HB2.out _⟩
          case measure => simp [intOf]; omega
        · have g2 : (u != v) = true := by rw [bne_iff_ne]; exact huv
          have g2' : (u == v) = false := by rw [beq_eq_false_iff_ne]; exact huv
          have HF := Lib.hid (sameB_f (xs := xs) (ys := ys) (fun e => huv (by rw [← HU.out, ← HVV.out, e])))
          clear huv
          go_wp2
          go_quiet (fail)
          go_wp2
          go_returns
          exact ⟨_, rfl, by rw [HF.out]; rfl, HB2.out _⟩
      · have g1 : decide ((k : Int) < (n : Int)) = false := by simp; omega
        have : k = n := by omega
        subst this
        have HT := Lib.hid (sameB_t (xs := xs) (ys := ys) (List.ext_getElem (by rw [HL.out, KL.out]) (fun j h1 h2 => by have := HEQ.out j (by have := HL.out; omega); simpa [List.getD, h1, h2] using this)))
        go_wp2
        go_returns
        exact ⟨_, rfl, by rw [HT.out]; rfl, HBW.out⟩

end Go.Proofs.Tb
