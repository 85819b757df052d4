/- Contracts of the reference's numbers of any size: DivMod. -/
import Derived.Test.YtcbffkkcldnegaaRefH
set_option linter.unusedVariables false
set_option linter.unusedSimpArgs false
namespace Go.Proofs.Tb
open Go.RowKit
attribute [local go_sem] cell_set_same
attribute [local go_sem] field_Z1

theorem getD_val (B : Nat) (hB : 2 ≤ B) (xs : List Nat) (hx : Dg B xs) (i : Nat) : xs.getD i 0 = val B xs / B ^ i % B := by
  induction xs generalizing i with
  | nil => simp [val]
  | cons x xs ih =>
    have h0 : x < B := hx x (by simp)
    cases i with
    | zero => simp [val]; exact (Nat.mod_eq_of_lt h0).symm
    | succ i =>
      have := ih (fun y hy => hx y (by simp [hy])) i
      simp only [List.getD_cons_succ, val]
      rw [this, Nat.pow_succ', ← Nat.div_div_eq_div_mul, Nat.add_mul_div_left _ _ (by omega), Nat.div_eq_of_lt h0, Nat.zero_add]
theorem dig_step (B m i d : Nat) (hB : 2 ≤ B) (hd : (digs B m).getD i 0 = d) : m / B ^ i = B * (m / B ^ (i + 1)) + d ∧ d < B := by
  rw [getD_val B hB _ (digs_dg B hB m), val_digs B hB] at hd
  rw [Nat.pow_succ, ← Nat.div_div_eq_div_mul, ← hd]
  exact ⟨(Nat.div_add_mod _ _).symm, Nat.mod_lt _ (by omega)⟩
theorem part10 (B M b d : Nat) (hb : 0 < b) : (B * M + d) % b = (B * (M % b) + d) % b ∧ (B * M + d) / b = B * (M / b) + (B * (M % b) + d) / b := by
  have e : B * M + d = b * (B * (M / b)) + (B * (M % b) + d) := by
    have h := Nat.div_add_mod M b
    have h1 : B * M = B * (b * (M / b) + M % b) := by rw [h]
    rw [h1, Nat.mul_add, ← Nat.mul_assoc, Nat.mul_comm B b, Nat.mul_assoc, Nat.add_assoc]
  rw [e]
  exact ⟨Nat.mul_add_mod _ _ _, Nat.mul_add_div hb _ _⟩
theorem dig_lt (B r b d : Nat) (hr : r < b) (hd : d < B) : B * r + d < B * b := by
  have : B * (r + 1) ≤ B * b := Nat.mul_le_mul_left _ hr
  rw [Nat.mul_add] at this
  omega
theorem low_is (R b l h : Nat) (h1 : b * l ≤ R) (h2 : R < b * h) (h3 : l < h) (h4 : h ≤ l + 1) : R / b = l := by
  have : h = l + 1 := by omega
  subst this
  exact Nat.div_eq_of_lt_le (by rw [Nat.mul_comm]; exact h1) (by rw [Nat.mul_comm]; exact h2)
theorem set_dig (B : Nat) (hB : 2 ≤ B) (qs : List Nat) (hq : Dg B qs) (i Q l : Nat) (hi : i < qs.length) (hv : val B qs = Q * B ^ (i + 1)) : val B (qs.set i l) = (B * Q + l) * B ^ i := by
  have h0 : qs.getD i 0 = 0 := by
    rw [getD_val B hB _ hq, hv, Nat.pow_succ, ← Nat.mul_assoc, Nat.mul_comm (Q * B ^ i) B, Nat.mul_comm Q, ← Nat.mul_assoc, Nat.mul_comm B, Nat.mul_assoc, Nat.mul_div_cancel_left _ (Nat.pow_pos (by omega)), Nat.mul_mod_right]
  have h := val_set_all B qs i l 0 hi h0
  rw [Nat.mul_zero, Nat.add_zero] at h
  rw [h, hv, Nat.pow_succ, Nat.add_mul, Nat.mul_comm B Q, Nat.mul_assoc, Nat.mul_comm (B ^ i) B, Nat.mul_comm l]
theorem neg_div (m b : Nat) (hb : 0 < b) : (m % b = 0 → (-(m : Int)) / (b : Int) = -((m / b : Nat) : Int) ∧ (-(m : Int)) % (b : Int) = 0) ∧
    (0 < m % b → (-(m : Int)) / (b : Int) = -((m / b : Nat) : Int) + -1 ∧ (-(m : Int)) % (b : Int) = (b : Int) + -((m % b : Nat) : Int)) := by
  have h := Nat.div_add_mod m b
  have hl := Nat.mod_lt m hb
  have hc : (b : Int) * ((m / b : Nat) : Int) + ((m % b : Nat) : Int) = (m : Int) := by
    have := congrArg (fun k : Nat => (k : Int)) h
    simpa using this
  constructor
  · intro h0
    have := (Int.ediv_emod_unique (a := -(m : Int)) (b := (b : Int)) (q := -((m / b : Nat) : Int)) (r := 0) (by omega)).2 ⟨by rw [h0] at hc; rw [Int.mul_neg]; omega, by omega, by omega⟩
    exact this
  · intro h0
    have := (Int.ediv_emod_unique (a := -(m : Int)) (b := (b : Int)) (q := -((m / b : Nat) : Int) + -1) (r := (b : Int) + -((m % b : Nat) : Int)) (by omega)).2 ⟨by rw [Int.mul_add, Int.mul_neg]; omega, by omega, by omega⟩
    exact this
/-- Two blocks of numbers that may be written. -/
def HM2 (g0 g1 : Nat) (W0 w : World) : Prop := HeldM [(g0, 2, TZ), (g1, 2, TZ)] W0 w
section
variable {g0 g1 : Nat} {W0 w w' : World}
theorem HM2.start {a0 a1 b0 b1 : Value} (c0 : Blk W0 g0 TZ #[a0, a1]) (c1 : Blk W0 g1 TZ #[b0, b1]) : HM2 g0 g1 W0 W0 := HeldM.mk2 c0 c1
theorem HM2.drew (h : HM2 g0 g1 W0 w) : HM2 g0 g1 W0 w.drew := HeldM.drew h
theorem HM2.trans_ (h : HM2 g0 g1 W0 w) (hb : Below w.heap.size w w') : HM2 g0 g1 W0 w' := HeldM.trans_ h hb
theorem HM2.set0 (h : HM2 g0 g1 W0 w) (j : Nat) (v : Value) : HM2 g0 g1 W0 (w.setCell ⟨g0, j, none⟩ v) := HeldM.set_ h m2_0 j v
theorem HM2.set1 (h : HM2 g0 g1 W0 w) (j : Nat) (v : Value) : HM2 g0 g1 W0 (w.setCell ⟨g1, j, none⟩ v) := HeldM.set_ h m2_1 j v
theorem HM2.blk (h : HM2 g0 g1 W0 w) {g : Nat} {t : TypeId} {cs : Array Value} (hb : Blk W0 g t cs) (n0 : g ≠ g0) (n1 : g ≠ g1) : Blk w g t cs := Blk.heldM hb h (by
  intro r hr
  simp only [List.mem_cons, List.not_mem_nil, or_false] at hr
  rcases hr with rfl | rfl <;> assumption)
theorem HM2.cell0 (h : HM2 g0 g1 W0 w) (j : Nat) (hj : j < 2) : w.cell? ⟨g0, j, none⟩ = some (cnt w g0 j) := rulesM_cell _ W0 g0 2 TZ (.head _) w h j hj
theorem HM2.cell1 (h : HM2 g0 g1 W0 w) (j : Nat) (hj : j < 2) : w.cell? ⟨g1, j, none⟩ = some (cnt w g1 j) := rulesM_cell _ W0 g1 2 TZ (.tail _ (.head _)) w h j hj
theorem HM2.free0 (h : HM2 g0 g1 W0 w) (j : Nat) : w.frozen? ⟨g0, j, none⟩ = false := rulesM_free _ W0 g0 2 TZ (.head _) w h j
theorem HM2.free1 (h : HM2 g0 g1 W0 w) (j : Nat) : w.frozen? ⟨g1, j, none⟩ = false := rulesM_free _ W0 g1 2 TZ (.tail _ (.head _)) w h j
theorem HM2.sl (h : HM2 g0 g1 W0 w) {A : Option Addr} {n c : Nat} {xs : List Value} (hs : Sl TN W0 A n c xs) : Sl TN w A n c xs := Sl.heldM hs h (heldM2_ne (by decide) (by decide))
theorem HM2.here (h : HM2 g0 g1 W0 w) : HM2 g0 g1 w w := HeldM.here h
theorem HM2.trans2 (h : HM2 g0 g1 W0 w) (h' : HM2 g0 g1 w w') : HM2 g0 g1 W0 w' := HeldM.trans2 h h'
theorem HM2.below {w0 : World} (h : HM2 g0 g1 W0 w) (hb : Below w0.heap.size w0 W0) (h0 : w0.heap.size ≤ g0) (h1 : w0.heap.size ≤ g1) : Below w0.heap.size w0 w := HeldM.below h hb (heldM2_ge h0 h1)
end
/-- Quotient, rounded down, and rest. -/
def DM (x y : Int) (v : Value) (w : World) : Prop := ∃ v1 v2, v = .tuple #[v1, v2] ∧ ZI w v1 (x / y) ∧ ZI w v2 (x % y)

/-- m with a sign. -/
def sg (s : Bool) (m : Nat) : Int := if s then -(m : Int) else (m : Int)
set_option maxHeartbeats 6400000 in
set_option maxRecDepth 100000 in
theorem zdivmod_nat (s : Bool) (A : Option Addr) (n c : Nat) (A' : Option Addr) (n' c' : Nat) (m b : Nat) (w : World) (h : Sl TN w A n c (LZ m)) (h' : Sl TN w A' n' c' (LZ b)) (hb : 0 < b) (hsm : s = true → 0 < m)
    (hs : dl BT m ≤ 100000000000) (hs' : dl BT b ≤ 100000000000) :
    Calls Try.prog 71 #[.agg #[.bool s, .slice A n c], .agg #[.bool false, .slice A' n' c']] w (Ret (DM (sg s m) (b : Int)) w) := by
  have hn := h.le
  have hc := h.cap
  have hl := h.lenZ
  have hnb : n ≤ 100000000000 := by omega
  have H := Lib.hid h
  have H' := Lib.hid h'
  have HL := Lib.hid hl
  have HS' := Lib.hid hs'
  have HSM := Lib.hid hsm
  clear h h' hs' hs hl hsm
  have hmk := make_int n (n : Int) rfl (by omega)
  go_enter Try.func71, Try.ntmps71
  go_wp2
  clear hmk
  refine wp_world (fun W0 => Blk W0 w.heap.size TZ #[.bool s, .slice A n c] ∧ Blk W0 (w.heap.size + 1) TZ #[.bool false, .slice A' n' c'] ∧ Blk W0 (w.heap.size + 1 + 1) TZ #[.bool false, .slice none 0 0] ∧ Blk W0 (w.heap.size + 1 + 1 + 1) TZ #[.bool false, .slice none 0 0] ∧ Blk W0 (w.heap.size + 1 + 1 + 1 + 1) TN (zerI n) ∧ Below w.heap.size w W0) (by exact ⟨(((((Blk.new_ _ _ rfl).alloc _).alloc _).alloc _).alloc _).alloc _, ((((Blk.new_ _ _ (by simp)).alloc _).alloc _).alloc _).alloc _, (((Blk.new_ _ _ (by simp)).alloc _).alloc _).alloc _, ((Blk.new_ _ _ (by simp)).alloc _).alloc _, (Blk.new_ _ _ (by simp)).alloc _, by go_grown⟩) ?_
  rintro W0 ⟨b0, b1, b2, b3, b4, hbw⟩
  obtain ⟨G, hG⟩ : ∃ G, w.heap.size + 1 + 1 + 1 + 1 = G := ⟨_, rfl⟩
  rw [hG] at b4 ⊢
  have hG0 : w.heap.size + 1 + 1 + 1 < G := by omega
  clear hG
  have k0 := fun w' (hh : Held G n TN W0 w') => (b0.held hh (by omega)).cells
  have k1 := fun w' (hh : Held G n TN W0 w') => (b1.held hh (by omega)).cells
  simp only [cellsAre, Nat.zero_add, Nat.reduceAdd, and_true] at k0 k1
  have B2 := Lib.hid b2
  have B3 := Lib.hid b3
  have B1 := Lib.hid b1
  have K0 := Lib.hid k0
  have K1 := Lib.hid k1
  have hst : Held G n TN W0 W0 := by have := b4.heldS; simpa [zerI] using this
  have I0 : ZInv W0 G n W0 (List.replicate n 0) := ⟨hst, b4, by simp, Dg.replicate (by unfold BT; omega) _⟩
  have HI0 := Lib.hid I0
  clear b0 b1 b2 b3 b4 k0 k1 hst I0
  go_loopw [7, 8] (fun r i wr => ∃ (k : Nat) (qs : List Nat) (A1 : Option Addr) (n1 c1 : Nat), k ≤ n ∧ i = .int .i64 ((k : Int) - 1) ∧ r = .slice A1 n1 c1 ∧ Sl TN wr A1 n1 c1 (LZ (m / BT ^ k % b)) ∧ ZInv W0 G n wr qs ∧ val BT qs = m / BT ^ k / b * BT ^ k) (fun _ i _ => (intOf i + 1).toNat)
  case atStart =>
    have e0 : m / BT ^ n = 0 := Nat.div_eq_of_lt (by rw [HL.out]; exact lt_pow_dl BT two_BT m)
    refine ⟨n, List.replicate n 0, _, 0, 0, Nat.le_refl _, rfl, rfl, ?_, HI0.out, ?_⟩
    · rw [e0, Nat.zero_mod]; exact Sl.empty _ _ _ 0 (by omega)
    · rw [e0]; simp [val_zeros]
  case round =>
    clear HI0
    obtain ⟨k, qs, A1, n1, c1, hk, rfl, rfl, hr, hI, hv⟩ := hrel
    have hn1 : n1 ≤ 200000000000 := by
      have h1 := hr.lenZ
      have h2 := dl_mono BT two_BT (m / BT ^ k % b) b (Nat.le_of_lt (Nat.mod_lt _ hb))
      have := HS'.out
      omega
    have HR := Lib.hid hr
    have HI := Lib.hid hI
    have HV := Lib.hid hv
    clear hr hI hv
    obtain ⟨e00, e01⟩ := K0.out wr HI.out.held
    obtain ⟨e10, e11⟩ := K1.out wr HI.out.held
    by_cases hk0 : 0 < k
    · obtain ⟨i, rfl⟩ : ∃ i, k = i + 1 := ⟨k - 1, by omega⟩
      have ei : ((i + 1 : Nat) : Int) - 1 = (i : Int) := by omega
      rw [ei]
      clear ei hk0
      have hin : i < n := by omega
      obtain ⟨bb, o, rfl, hcell⟩ := H.out.at_int (by omega)
      have hcx : wr.cell? ⟨bb, o + i, none⟩ = some (.int .i64 (((digs BT m).getD i 0 : Nat) : Int)) := by
        rw [(HI.out.held.below hbw (by omega)).cell (p := ⟨bb, o + i, none⟩) (World.block_lt_of_cell? w _ (hcell i hin))]
        exact hcell i hin
      clear hcell
      obtain ⟨d, hd⟩ : ∃ d, (digs BT m).getD i 0 = d := ⟨_, rfl⟩
      rw [hd] at hcx
      obtain ⟨hst1, hd1⟩ := dig_step BT m i d two_BT hd
      rw [BT_eq] at hd1
      obtain ⟨r0, hr0⟩ : ∃ r0, m / BT ^ (i + 1) % b = r0 := ⟨_, rfl⟩
      have HR0 := Lib.hid hr0
      rw [hr0] at HR
      have hrb : r0 < b := by rw [← hr0]; exact Nat.mod_lt _ hb
      obtain ⟨R, hRe⟩ : ∃ R, 10000 * r0 + d = R := ⟨_, rfl⟩
      have HRE := Lib.hid hRe
      have hRb : R < b * 10000 := by have := dig_lt 10000 r0 b d hrb hd1; rw [Nat.mul_comm]; omega
      have HP := Lib.hid (show m / BT ^ i % b = R % b ∧ m / BT ^ i / b = 10000 * (m / BT ^ (i + 1) / b) + R / b by
        rw [hst1, BT_eq]
        have := part10 10000 (m / 10000 ^ (i + 1)) b d hb
        rw [BT_eq] at hr0
        rw [hr0, hRe] at this
        exact this)
      have HDG := Lib.hid (show Dg BT (d :: digs BT r0) from fun x hx => by rcases List.mem_cons.1 hx with rfl | hx; rw [BT_eq]; exact hd1; exact digs_dg BT two_BT r0 x hx)
      have HVR := Lib.hid (show val BT (d :: digs BT r0) = ((R : Nat) : Int).natAbs by rw [Int.natAbs_natCast, val, val_digs BT two_BT, BT_eq]; omega)
      have HSR := Lib.hid (show dl BT R ≤ 200000000000 by
        have h1 := dl_mul BT two_BT b 10000
        have h2 := dl_mono BT two_BT R (b * 10000) (by omega)
        have h3 := dl_i64 10000 (by omega)
        have := HS'.out
        omega)
      have HRB := Lib.hid hRb
      have OWN := Lib.hid (World.ownsRow_lit (base := wr.heap.size) (e := TN) (size := 1) wr #[I64 d] 1 (Nat.le_refl _) (by unfold maxLen; omega) rfl)
      clear hd hst1 hr0 hrb hRe hRb
      go_wp2_with (at_builtin; refine wp_appN rfl _ _ rfl wr.heap.size _ [d] rfl OWN.out A1 n1 c1 (digs BT r0) rfl (HR.out.below (Below.alloc (Below.refl _ _) (Nat.le_refl _) _)) (by simp) (by omega) (by simp) ?_; intro v' w1 hown1 hb1; obtain ⟨A2, n2, c2, rfl, hs2⟩ := hown1.sl; have HS2 := Lib.hid hs2; have HB1 := Lib.hid (Below.trans (Below.alloc (Below.refl _ wr) (Nat.le_refl _) _) hb1); clear hs2 hb1 hown1)
      have hn2 : n2 ≤ 1000000000000 := by
        have h1 := HS2.out.len
        have h2 := HR.out.lenZ
        simp only [List.length_map, List.length_append, List.length_cons, List.length_nil] at h1
        have h3 : (digs BT r0).length = n1 := h2.symm
        omega
      refine (zlean_fr false A2 n2 c2 (d :: digs BT r0) ((R : Nat) : Int) _ HS2.out HDG.out HVR.out (Or.inl (ng_nat _).symm) hn2).mono ?_
      rintro e w2 ⟨v2, rfl, ⟨A3, n3, c3, rfl, h3, hge⟩, hb2⟩
      rw [Int.natAbs_natCast] at h3
      have hoff : Off G A3 := fun a ha => by have := hge a ha; have h5 := HI.out.held.lt; have := HB1.out.size; omega
      have HOFF := Lib.hid hoff
      have H3 := Lib.hid h3
      have hB2 : Below wr.heap.size wr w2 := HB1.out.trans (hb2.mono HB1.out.size)
      have I2 := Lib.hid (HI.out.below_ hB2)
      have hn3 : n3 ≤ 200000000000 := by have := h3.lenZ; have := HSR.out; omega
      clear h3 hge hb2 hoff hB2 hcx hn2
      go_wp2
      clear e00 e01 e10 e11
      go_loopw [9, 10] (fun lo hi wi => ∃ (l h : Nat), lo = .int .i64 l ∧ hi = .int .i64 h ∧ l < h ∧ h ≤ 10000 ∧ b * l ≤ R ∧ R < b * h ∧ Below w2.heap.size w2 wi) (fun lo hi _ => (intOf hi - intOf lo).toNat)
      case atStart => exact ⟨0, 10000, rfl, rfl, by omega, by omega, by omega, HRB.out, Below.refl _ _⟩
      case round =>
        obtain ⟨l, h, rfl, rfl, hlh, hh, hlo, hhi, hbi⟩ := hrel
        obtain ⟨wi, rfl⟩ : ∃ wi : World, wi = wr := ⟨_, rfl⟩
        have HLO := Lib.hid hlo
        have HHI := Lib.hid hhi
        have I3 := Lib.hid (I2.out.below_ hbi)
        have HBI := Lib.hid hbi
        clear hlo hhi hbi
        obtain ⟨f10, f11⟩ := K1.out wi I3.out.held
        by_cases hgap : l + 1 < h
        · obtain ⟨mid, hmid⟩ : ∃ mid : Nat, mid = (l + h) / 2 := ⟨_, rfl⟩
          have hm1 : l < mid := by omega
          have hm2 : mid < h := by omega
          have em : ((l : Int) + (h : Int)) / 2 = (mid : Int) := by omega
          have EM := Lib.hid em
          clear hmid em
          go_wp2_with fail
          have ht := ztimes_any A' n' c' b mid wi (H'.out.below (I3.out.held.below hbw (by omega))) (by omega) (by have := HS'.out; omega)
          rw [← EM.out] at ht
          refine ht.mono ?_
          rintro e w3 ⟨v3, rfl, ⟨A4, n4, c4, rfl, h4⟩, hb3⟩
          clear ht
          go_wp2_with fail
          refine (zsizes_any A4 A3 n4 c4 n3 c3 (b * mid) R _ h4 (H3.out.below (bt HBI.out hb3))).mono ?_
          rintro e w4 ⟨v4, rfl, hv4, hb4⟩
          subst hv4
          have hbn := bt HBI.out (bt hb3 hb4)
          have HBN := Lib.hid hbn
          obtain ⟨r, hr⟩ : ∃ r, cmpN (b * mid) R = r := ⟨_, rfl⟩
          rw [hr]
          by_cases hle : b * mid ≤ R
          · have hr0 : r ≤ 0 := by rw [← hr]; exact cmpN_le.2 hle
            have HLE := Lib.hid hle
            clear hr hle h4 hb3 hb4 hbn
            go_wp2
            rw [EM.out]
            go_roundw
            case rel => exact ⟨mid, h, rfl, rfl, hm2, hh, HLE.out, HHI.out, HBN.out⟩
            case measure => simp [intOf]; omega
          · have hr0 : ¬ r ≤ 0 := by rw [← hr]; intro h; exact hle (cmpN_le.1 h)
            have HLE := Lib.hid hle
            clear hr hle h4 hb3 hb4 hbn
            go_wp2
            rw [EM.out]
            go_roundw
            case rel => exact ⟨l, mid, rfl, rfl, hm1, by omega, HLO.out, by have := HLE.out; omega, HBN.out⟩
            case measure => simp [intOf]; omega
        · have HLOW := Lib.hid (low_is R b l h HLO.out HHI.out hlh (by omega))
          have hcg := blk_cellI I3.out.blk (j := i) (by rw [I3.out.len]; exact hin)
          have hfr := I3.out.blk.free i
          have I4 := Lib.hid (I3.out.set_ i l (by rw [BT_eq]; omega))
          have H4 := Lib.hid ((H3.out.below HBI.out).far HOFF.out i (I64 l))
          obtain ⟨g10, g11⟩ := K1.out _ I4.out.held
          unfold I64 at g10 g11
          go_wp2_with fail
          refine (ztimes_any A' n' c' b l _ (H'.out.below (I4.out.held.below hbw (by omega))) (by omega) (by have := HS'.out; omega)).mono ?_
          rintro e w5 ⟨v5, rfl, ⟨A5, n5, c5, rfl, h5⟩, hb5⟩
          have hle5 : n5 ≤ n3 := by rw [h5.lenZ, H3.out.lenZ]; exact dl_mono BT two_BT _ _ HLO.out
          go_wp2_with fail
          refine (zless_any A3 A5 n3 c3 n5 c5 (digs BT R) (digs BT (b * l)) _ (H4.out.below hb5) h5 (digs_dg BT two_BT _) (digs_dg BT two_BT _) hle5 (by rw [val_digs BT two_BT, val_digs BT two_BT]; exact HLO.out) (by omega)).mono ?_
          rintro e w6 ⟨v6, rfl, ⟨cs6, ⟨A6, n6, c6, rfl, h6⟩, hd6, hv6, hl6⟩, hb6⟩
          rw [val_digs BT two_BT, val_digs BT two_BT] at hv6
          have H6 := Lib.hid (And.intro h6 (And.intro hd6 (And.intro hv6 hl6)))
          have HB6 := Lib.hid (bt hb5 hb6)
          clear h5 hb5 h6 hd6 hv6 hl6 hb6 g10 g11 f10 f11 hcg hfr
          have hn6 : n6 ≤ 1000000000000 := by have h1 := H6.out.1.len; have h2 := H6.out.2.2.2; rw [List.length_map] at h1; omega
          go_wp2_with fail
          refine (zlean_any false A6 n6 c6 cs6 ((R - b * l : Nat) : Int) _ H6.out.1 H6.out.2.1 (by rw [Int.natAbs_natCast]; exact H6.out.2.2.1) (Or.inl (ng_nat _).symm) hn6).mono ?_
          rintro e w7 ⟨v7, rfl, ⟨A7, n7, c7, rfl, h7⟩, hb7⟩
          rw [Int.natAbs_natCast] at h7
          have H7 := Lib.hid h7
          have I7 := Lib.hid (I4.out.below_ (bt HB6.out hb7))
          clear h7 hb7 hn6
          go_wp2
          go_roundw
          case rel =>
            refine ⟨i, qs.set i l, A7, n7, c7, by omega, by go_num, rfl, ?_, I7.out, ?_⟩
            · rw [HP.out.1]
              have e : R % b = R - b * l := by have h1 := Nat.div_add_mod R b; rw [HLOW.out] at h1; omega
              rw [e]; exact H7.out
            · rw [HP.out.2, HLOW.out]
              have := set_dig BT two_BT qs HI.out.dg i (m / BT ^ (i + 1) / b) l (by rw [HI.out.len]; exact hin) HV.out
              rw [this, BT_eq]
          case measure => first | (simp [intOf]; done) | (simp [intOf]; omega)
    · have : k = 0 := by omega
      subst this
      clear hk0 hk
      rw [Nat.pow_zero, Nat.div_one] at HR
      have HV0 := Lib.hid (show val BT qs = m / b by have := HV.out; simpa using this)
      clear HV
      have hsl := Blk.sl HI.out.blk rfl (by simp [HI.out.len]; omega)
      have hlen : (qs.map I64).length = n := by simp [HI.out.len]
      rw [hlen] at hsl
      have HSL := Lib.hid hsl
      have hdr : dl BT (m % b) ≤ 200000000000 := by have := HR.out.lenZ; omega
      have BB1 := Lib.hid (B1.out.held HI.out.held (by omega))
      have BB2 := Lib.hid (B2.out.held HI.out.held (by omega))
      have BB3 := Lib.hid (B3.out.held HI.out.held (by omega))
      have HBW := Lib.hid (HI.out.held.below hbw (by omega))
      clear hsl hlen hdr
      cases s
      · go_wp2_with fail
        refine (zlean_any false _ n n qs (((m / b : Nat) : Int)) _ HSL.out HI.out.dg (by rw [HV0.out]; (try rw [Int.natAbs_neg]); rw [Int.natAbs_natCast]) (Or.inl (ng_nat _).symm) (by omega)).mono ?_
        rintro e w1 ⟨v1, rfl, ⟨A8, n8, c8, rfl, h8⟩, hb1⟩
        go_wp2_with fail
        refine (zlean_any false A1 n1 c1 (digs BT (m % b)) ((m % b : Nat) : Int) _ (HR.out.below hb1) (digs_dg BT two_BT _) (by rw [Int.natAbs_natCast, val_digs BT two_BT]) (Or.inl (ng_nat _).symm) (by omega)).mono ?_
        rintro e w2 ⟨v2, rfl, ⟨A9, n9, c9, rfl, h9⟩, hb2⟩
        rw [Int.natAbs_natCast] at h9
        have H9 := Lib.hid h9
        have H8 := Lib.hid (h8.below hb2)
        have HB12 := Lib.hid (bt hb1 hb2)
        have hlt12 : w.heap.size + 1 + 1 + 1 < w2.heap.size := by have := HB12.out.size; have := HI.out.held.lt; omega
        have q00 : w2.cell? ⟨w.heap.size, 0, none⟩ = some (.bool false) := by rw [HB12.out.cell (p := ⟨w.heap.size, 0, none⟩) (by have := HI.out.held.lt; show w.heap.size < wr.heap.size; omega)]; exact e00
        have q0 := fun (o1 o2 : Obj) => (World.cell?_alloc_lt (w2.alloc o1) o2 ⟨w.heap.size, 0, none⟩ (by simp; omega)).trans ((World.cell?_alloc_lt w2 o1 ⟨w.heap.size, 0, none⟩ (by simp; omega)).trans q00)
        clear h8 h9 hb1 hb2 e00 e01 e10 e11
        have e1 : sg false m / (b : Int) = ((m / b : Nat) : Int) := by unfold sg; simp
        have e2 : sg false m % (b : Int) = ((m % b : Nat) : Int) := by unfold sg; simp
        have E1 := Lib.hid e1
        have E2 := Lib.hid e2
        clear e1 e2
        go_wp2
        refine wp_world (fun W5 => Blk W5 w2.heap.size TZ #[.bool (ng (((m / b : Nat) : Int))), .slice A8 n8 c8] ∧ Blk W5 (w2.heap.size + 1) TZ #[.bool (ng ((m % b : Nat) : Int)), .slice A9 (n9) c9] ∧ Below w2.heap.size w2 W5) (by exact ⟨(Blk.new_ _ _ rfl).alloc _, Blk.new_ _ _ (by simp), by go_grown⟩) ?_
        rintro W5 ⟨d12, d13, hb5⟩
        have C12 := Lib.hid d12
        have C13 := Lib.hid d13
        have C1 := Lib.hid (BB1.out.below (bt HB12.out hb5))
        have C2 := Lib.hid (BB2.out.below (bt HB12.out hb5))
        have C3 := Lib.hid (BB3.out.below (bt HB12.out hb5))
        have HW5 := Lib.hid (bt HBW.out (bt HB12.out hb5))
        have H8' := Lib.hid (H8.out.below hb5)
        have H9' := Lib.hid (H9.out.below hb5)
        clear d12 d13 hb5 q0 q00
        have k12 := C12.out.cells
        have k13 := C13.out.cells
        have k2 := C2.out.cells
        have k3 := C3.out.cells
        have f2 := C2.out.free
        have f3 := C3.out.free
        simp only [cellsAre, Nat.zero_add, Nat.reduceAdd, and_true] at k12 k13 k2 k3
        have n1 : w.heap.size + 1 + 1 ≠ w2.heap.size := by omega
        have n2 : w.heap.size + 1 + 1 ≠ w2.heap.size + 1 := by omega
        have n3 : w.heap.size + 1 + 1 + 1 ≠ w2.heap.size := by omega
        have n4 : w.heap.size + 1 + 1 + 1 ≠ w2.heap.size + 1 := by omega
        have n5 : w2.heap.size ≠ w.heap.size + 1 + 1 := by omega
        have n6 : w2.heap.size + 1 ≠ w.heap.size + 1 + 1 := by omega
        have n7 : w2.heap.size ≠ w.heap.size + 1 + 1 + 1 := by omega
        have n8' : w2.heap.size + 1 ≠ w.heap.size + 1 + 1 + 1 := by omega
        go_region
        go_wp2
        (try simp only [Exit.inBlock, Exit.then])
        refine bodyPost_ret (v := .tuple #[.agg #[.bool (ng (((m / b : Nat) : Int))), .slice A8 n8 c8], .agg #[.bool (ng ((m % b : Nat) : Int)), .slice A9 n9 c9]]) (by simp [results, Try.results71, go_sem, k2, k3]) rfl ?_
        have hF := (((((HeldM.mk2 C2.out C3.out).set_ m2_0 0 (.bool (ng (((m / b : Nat) : Int))))).set_ m2_0 1 (.slice A8 n8 c8)).set_ m2_1 0 (.bool (ng ((m % b : Nat) : Int)))).set_ m2_1 1 (.slice A9 n9 c9)).drew
        exact ⟨_, rfl, ⟨_, _, rfl, ⟨A8, n8, c8, by rw [E1.out], by rw [E1.out]; exact H8'.out.heldM hF (heldM2_ne (by decide) (by decide))⟩, ⟨A9, n9, c9, by rw [E2.out], by rw [E2.out, Int.natAbs_natCast]; exact H9'.out.heldM hF (heldM2_ne (by decide) (by decide))⟩⟩, hF.below HW5.out (heldM2_ge (by omega) (by omega))⟩
      · go_wp2_with fail
        refine (zlean_any true _ n n qs (-((m / b : Nat) : Int)) _ HSL.out HI.out.dg (by rw [HV0.out]; (try rw [Int.natAbs_neg]); rw [Int.natAbs_natCast]) ((by rcases Nat.eq_zero_or_pos (m / b) with h0 | h0; right; rw [h0]; rfl; left; unfold ng; simp; omega)) (by omega)).mono ?_
        rintro e w1 ⟨v1, rfl, ⟨A8, n8, c8, rfl, h8⟩, hb1⟩
        go_wp2_with fail
        refine (zlean_any false A1 n1 c1 (digs BT (m % b)) ((m % b : Nat) : Int) _ (HR.out.below hb1) (digs_dg BT two_BT _) (by rw [Int.natAbs_natCast, val_digs BT two_BT]) (Or.inl (ng_nat _).symm) (by omega)).mono ?_
        rintro e w2 ⟨v2, rfl, ⟨A9, n9, c9, rfl, h9⟩, hb2⟩
        rw [Int.natAbs_natCast] at h9
        have H9 := Lib.hid h9
        have H8 := Lib.hid (h8.below hb2)
        have HB12 := Lib.hid (bt hb1 hb2)
        have hlt12 : w.heap.size + 1 + 1 + 1 < w2.heap.size := by have := HB12.out.size; have := HI.out.held.lt; omega
        have q00 : w2.cell? ⟨w.heap.size, 0, none⟩ = some (.bool true) := by rw [HB12.out.cell (p := ⟨w.heap.size, 0, none⟩) (by have := HI.out.held.lt; show w.heap.size < wr.heap.size; omega)]; exact e00
        have q0 := fun (o1 o2 : Obj) => (World.cell?_alloc_lt (w2.alloc o1) o2 ⟨w.heap.size, 0, none⟩ (by simp; omega)).trans ((World.cell?_alloc_lt w2 o1 ⟨w.heap.size, 0, none⟩ (by simp; omega)).trans q00)
        clear h8 h9 hb1 hb2 e00 e01 e10 e11
        by_cases hmb : m % b = 0
        · have hn9 : n9 = 0 := by have := H9.out.posZ; omega
          subst hn9
          have hd9 : decide ((0 : Int) < ((0 : Nat) : Int)) = false := rfl
          have hng := (neg_div m b hb).1 hmb
          have E1 := Lib.hid (show sg true m / (b : Int) = -((m / b : Nat) : Int) from hng.1)
          have E2 := Lib.hid (show sg true m % (b : Int) = ((m % b : Nat) : Int) by rw [hmb]; exact hng.2)
          clear hng hmb
          go_wp2
          refine wp_world (fun W5 => Blk W5 w2.heap.size TZ #[.bool (ng (-((m / b : Nat) : Int))), .slice A8 n8 c8] ∧ Blk W5 (w2.heap.size + 1) TZ #[.bool (ng ((m % b : Nat) : Int)), .slice A9 (0) c9] ∧ Below w2.heap.size w2 W5) (by exact ⟨(Blk.new_ _ _ rfl).alloc _, Blk.new_ _ _ (by simp), by go_grown⟩) ?_
          rintro W5 ⟨d12, d13, hb5⟩
          have C12 := Lib.hid d12
          have C13 := Lib.hid d13
          have C1 := Lib.hid (BB1.out.below (bt HB12.out hb5))
          have C2 := Lib.hid (BB2.out.below (bt HB12.out hb5))
          have C3 := Lib.hid (BB3.out.below (bt HB12.out hb5))
          have HW5 := Lib.hid (bt HBW.out (bt HB12.out hb5))
          have H8' := Lib.hid (H8.out.below hb5)
          have H9' := Lib.hid (H9.out.below hb5)
          clear d12 d13 hb5 q0 q00
          have k12 := C12.out.cells
          have k13 := C13.out.cells
          have k2 := C2.out.cells
          have k3 := C3.out.cells
          have f2 := C2.out.free
          have f3 := C3.out.free
          simp only [cellsAre, Nat.zero_add, Nat.reduceAdd, and_true] at k12 k13 k2 k3
          have n1 : w.heap.size + 1 + 1 ≠ w2.heap.size := by omega
          have n2 : w.heap.size + 1 + 1 ≠ w2.heap.size + 1 := by omega
          have n3 : w.heap.size + 1 + 1 + 1 ≠ w2.heap.size := by omega
          have n4 : w.heap.size + 1 + 1 + 1 ≠ w2.heap.size + 1 := by omega
          have n5 : w2.heap.size ≠ w.heap.size + 1 + 1 := by omega
          have n6 : w2.heap.size + 1 ≠ w.heap.size + 1 + 1 := by omega
          have n7 : w2.heap.size ≠ w.heap.size + 1 + 1 + 1 := by omega
          have n8' : w2.heap.size + 1 ≠ w.heap.size + 1 + 1 + 1 := by omega
          go_region
          go_wp2
          (try simp only [Exit.inBlock, Exit.then])
          refine bodyPost_ret (v := .tuple #[.agg #[.bool (ng (-((m / b : Nat) : Int))), .slice A8 n8 c8], .agg #[.bool (ng ((m % b : Nat) : Int)), .slice A9 0 c9]]) (by simp [results, Try.results71, go_sem, k2, k3]) rfl ?_
          have hF := (((((HeldM.mk2 C2.out C3.out).set_ m2_0 0 (.bool (ng (-((m / b : Nat) : Int))))).set_ m2_0 1 (.slice A8 n8 c8)).set_ m2_1 0 (.bool (ng ((m % b : Nat) : Int)))).set_ m2_1 1 (.slice A9 0 c9)).drew
          exact ⟨_, rfl, ⟨_, _, rfl, ⟨A8, n8, c8, by rw [E1.out], by rw [E1.out]; exact H8'.out.heldM hF (heldM2_ne (by decide) (by decide))⟩, ⟨A9, 0, c9, by rw [E2.out], by rw [E2.out, Int.natAbs_natCast]; exact H9'.out.heldM hF (heldM2_ne (by decide) (by decide))⟩⟩, hF.below HW5.out (heldM2_ge (by omega) (by omega))⟩
        · have hn9 : 0 < n9 := by have := H9.out.posZ; omega
          have hd9 : decide ((0 : Int) < (n9 : Int)) = true := by simp; omega
          have hng := (neg_div m b hb).2 (by omega)
          have E1 := Lib.hid (show sg true m / (b : Int) = -((m / b : Nat) : Int) + -1 from hng.1)
          have E2 := Lib.hid (show sg true m % (b : Int) = (b : Int) + -((m % b : Nat) : Int) from hng.2)
          have SZ1 := Lib.hid (show s10 (-((m / b : Nat) : Int)) ≤ 200000000000 by rw [s10_neg]; unfold s10; rw [Int.natAbs_natCast]; have := dl_mono BT two_BT (m / b) m (Nat.div_le_self _ _); have := HL.out; omega)
          have SZ2 := Lib.hid (show s10 (b : Int) ≤ 200000000000 by unfold s10; rw [Int.natAbs_natCast]; have := HS'.out; omega)
          have SZ3 := Lib.hid (show s10 ((m % b : Nat) : Int) ≤ 200000000000 by unfold s10; rw [Int.natAbs_natCast]; have := H9.out.lenZ; have := dl_mono BT two_BT (m % b) b (Nat.le_of_lt (Nat.mod_lt _ hb)); have := HS'.out; omega)
          clear hng hmb
          go_wp2
          refine wp_world (fun W5 => Blk W5 w2.heap.size TZ #[.bool (ng (-((m / b : Nat) : Int))), .slice A8 n8 c8] ∧ Blk W5 (w2.heap.size + 1) TZ #[.bool (ng ((m % b : Nat) : Int)), .slice A9 (n9) c9] ∧ Below w2.heap.size w2 W5) (by exact ⟨(Blk.new_ _ _ rfl).alloc _, Blk.new_ _ _ (by simp), by go_grown⟩) ?_
          rintro W5 ⟨d12, d13, hb5⟩
          have C12 := Lib.hid d12
          have C13 := Lib.hid d13
          have C1 := Lib.hid (BB1.out.below (bt HB12.out hb5))
          have C2 := Lib.hid (BB2.out.below (bt HB12.out hb5))
          have C3 := Lib.hid (BB3.out.below (bt HB12.out hb5))
          have HW5 := Lib.hid (bt HBW.out (bt HB12.out hb5))
          have H8' := Lib.hid (H8.out.below hb5)
          have H9' := Lib.hid (H9.out.below hb5)
          clear d12 d13 hb5 q0 q00
          have c1 := fun w' (hh : HM2 (w.heap.size + 1 + 1) (w.heap.size + 1 + 1 + 1) W5 w') => (hh.blk C1.out (by omega) (by omega)).cells
          have c12 := fun w' (hh : HM2 (w.heap.size + 1 + 1) (w.heap.size + 1 + 1 + 1) W5 w') => (hh.blk C12.out (by omega) (by omega)).cells
          have c13 := fun w' (hh : HM2 (w.heap.size + 1 + 1) (w.heap.size + 1 + 1 + 1) W5 w') => (hh.blk C13.out (by omega) (by omega)).cells
          have r2 := fun w' (hh : HM2 (w.heap.size + 1 + 1) (w.heap.size + 1 + 1 + 1) W5 w') => hh.cell0
          have r3 := fun w' (hh : HM2 (w.heap.size + 1 + 1) (w.heap.size + 1 + 1 + 1) W5 w') => hh.cell1
          have f2 := fun w' (hh : HM2 (w.heap.size + 1 + 1) (w.heap.size + 1 + 1 + 1) W5 w') => hh.free0
          have f3 := fun w' (hh : HM2 (w.heap.size + 1 + 1) (w.heap.size + 1 + 1 + 1) W5 w') => hh.free1
          have hst : HM2 (w.heap.size + 1 + 1) (w.heap.size + 1 + 1 + 1) W5 W5.drew := (HM2.start C2.out C3.out).drew
          simp only [cellsAre, Nat.zero_add, Nat.reduceAdd, and_true] at c1 c12 c13
          go_region_held3 (fun w' => HM2 (w.heap.size + 1 + 1) (w.heap.size + 1 + 1 + 1) W5 w') (first | assumption | exact HM2.trans_ (by assumption) (by assumption) | exact HM2.set0 (HM2.set0 (by assumption) _ _) _ _ | exact HM2.set1 (HM2.set1 (by assumption) _ _) _ _)
            (first | (go_at_call 102; have tk := hd2; refine (zsub_any _ _ (b : Int) ((m % b : Nat) : Int) _ ⟨A', n', c', by rw [ng_nat], by rw [Int.natAbs_natCast]; exact hh2.sl (H'.out.below HW5.out)⟩ ⟨A9, n9, c9, rfl, by rw [Int.natAbs_natCast]; exact hh2.sl H9'.out⟩ (by have := SZ2.out; omega) (by have := SZ3.out; omega)).mono ?_; rintro e y3 ⟨u3, rfl, ⟨A11, n11, c11, rfl, hx3⟩, hd3⟩; have hh3 : HM2 (w.heap.size + 1 + 1) (w.heap.size + 1 + 1 + 1) W5 y3 := hh2.trans_ hd3) | (go_at_call 102; have tk := hd1; refine (zsub_any _ _ (-((m / b : Nat) : Int)) 1 _ ⟨A8, n8, c8, rfl, hh1.sl H8'.out⟩ hu1 (by have := SZ1.out; omega) (by have := s10_small 1 (by omega) (by omega); omega)).mono ?_; rintro e y2 ⟨u2, rfl, ⟨A10, n10, c10, rfl, hx2⟩, hd2⟩; have hh2 : HM2 (w.heap.size + 1 + 1) (w.heap.size + 1 + 1 + 1) W5 y2 := hh1.trans_ hd2) | (go_at_call 66; refine (zint_any 1 _ (by omega) (by omega)).mono ?_; rintro e y1 ⟨u1, rfl, hu1, hd1⟩; have hh1 : HM2 (w.heap.size + 1 + 1) (w.heap.size + 1 + 1 + 1) W5 y1 := hst.trans_ hd1))
          go_wp2
          (try simp only [Exit.inBlock, Exit.then])
          refine bodyPost_ret (v := .tuple #[.agg #[.bool (ng (-((m / b : Nat) : Int) + -1)), .slice A10 n10 c10], .agg #[.bool (ng ((b : Int) + -((m % b : Nat) : Int))), .slice A11 n11 c11]]) (by simp [results, Try.results71, go_sem, r2 _ hh3, r3 _ hh3]) rfl ?_
          have hF := ((((hh3.here.set0 0 (.bool (ng (-((m / b : Nat) : Int) + -1)))).set0 1 (.slice A10 n10 c10)).set1 0 (.bool (ng ((b : Int) + -((m % b : Nat) : Int))))).set1 1 (.slice A11 n11 c11))
          exact ⟨_, rfl, ⟨_, _, rfl, ⟨A10, n10, c10, by rw [E1.out], by rw [E1.out]; exact hF.sl (hx2.below hd3)⟩, ⟨A11, n11, c11, by rw [E2.out], by rw [E2.out]; exact hF.sl hx3⟩⟩, (hh3.trans2 hF).below HW5.out (by omega) (by omega)⟩
theorem zdivmod_any (v v' : Value) (x y : Int) (w : World) (h : ZI w v x) (h' : ZI w v' y) (hy : 0 < y) (hs : s10 x ≤ 100000000000) (hs' : s10 y ≤ 100000000000) :
    Calls Try.prog 71 #[v, v'] w (Ret (DM x y) w) := by
  obtain ⟨A, n, c, rfl, h⟩ := h
  obtain ⟨A', n', c', rfl, h'⟩ := h'
  obtain ⟨b, rfl⟩ : ∃ b : Nat, y = (b : Int) := ⟨y.natAbs, by omega⟩
  rw [Int.natAbs_natCast] at h'
  unfold s10 at hs hs'
  rw [Int.natAbs_natCast] at hs'
  have e : sg (ng x) x.natAbs = x := by unfold sg ng; by_cases hx : x < 0 <;> simp [hx] <;> omega
  have := zdivmod_nat (ng x) A n c A' n' c' x.natAbs b w h h' (by omega) (fun hg => by unfold ng at hg; simp at hg; omega) hs hs'
  rw [e] at this
  rw [ng_nat]
  exact this
end Go.Proofs.Tb
