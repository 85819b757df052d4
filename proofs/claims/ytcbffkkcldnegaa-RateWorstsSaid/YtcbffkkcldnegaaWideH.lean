/- Contracts of package wide: division bit by bit. -/
import Derived.Test.YtcbffkkcldnegaaWideG
set_option linter.unusedVariables false
set_option linter.unusedSimpArgs false
namespace Go.Proofs.Tb
open Go.RowKit
attribute [local go_sem] cell_set_same

/-- The slice does not lie in block G. -/
def Off (G : Nat) (A : Option Addr) : Prop := ∀ a, A = some a → a.block ≠ G
theorem Sl.far {T : TypeId} {w : World} {A : Option Addr} {n c G : Nat} {xs : List Value} (h : Sl T w A n c xs) (ho : Off G A) (j : Nat) (u : Value) : Sl T (w.setCell ⟨G, j, none⟩ u) A n c xs := by
  refine ⟨h.len, h.le, h.cap, fun hn => ?_⟩
  obtain ⟨b, o, hA, ⟨cs, fr, hT⟩, hc⟩ := h.at_ hn
  have hb : b ≠ G := ho _ hA
  refine ⟨b, o, hA, ⟨cs, fr, (Below.heap_setCell _ _ _ _ hb).trans hT⟩, fun j' hj => ?_⟩
  rw [World.cell?_setCell_other w ⟨G, j, none⟩ ⟨b, o + j', none⟩ u (fun e => by injection e; omega)]
  exact hc j' hj

theorem MulInv.below_ {W0 wr w' : World} {G nm : Nat} {cs : List Nat} (h : MulInv W0 G nm wr cs) (hb : Below wr.heap.size wr w') : MulInv W0 G nm w' cs :=
  ⟨h.held.trans_ hb, h.blk.below hb, h.len, h.dg⟩
theorem bit_dig (B32s m i d : Nat) (xs : List Nat) (hB : B32s = 4294967296) (hx : Dg B32s xs) (hv : val B32s xs = m) (hd : xs.getD (i / 32) 0 = d) : d / 2 ^ (i % 32) % 2 = m / 2 ^ i % 2 := by
  subst hB
  have h1 := val_split 4294967296 xs (i / 32)
  by_cases hl : i / 32 < xs.length
  · have e1 : (xs.take (i / 32)).length = i / 32 := by simp; omega
    rw [e1, val_drop _ _ _ hl, hd, hv] at h1
    have h2 := val_lt 4294967296 _ (hx.take (i / 32))
    rw [e1] at h2
    have e2 : (4294967296 : Nat) ^ (i / 32) = 2 ^ (32 * (i / 32)) := by rw [Nat.pow_mul]
    have e3 : 2 ^ i = 2 ^ (32 * (i / 32)) * 2 ^ (i % 32) := by rw [← Nat.pow_add]; congr 1; omega
    rw [e3, ← Nat.div_div_eq_div_mul, ← e2, h1]
    rw [Nat.add_mul_div_left _ _ (Nat.pow_pos (by omega)), Nat.div_eq_of_lt h2, Nat.zero_add]
    obtain ⟨q, hq⟩ : ∃ q, val 4294967296 (xs.drop (i / 32 + 1)) = q := ⟨_, rfl⟩
    rw [hq]
    have e4 : (4294967296 : Nat) * q = 2 ^ (i % 32) * (2 * (2 ^ (31 - i % 32) * q)) := by
      have : (4294967296 : Nat) = 2 ^ (i % 32) * (2 * 2 ^ (31 - i % 32)) := by
        rw [← Nat.pow_succ', ← Nat.pow_add]
        have : i % 32 + (31 - i % 32).succ = 32 := by omega
        rw [this]
      rw [this]
      simp only [Nat.mul_assoc]
    rw [e4, Nat.add_mul_div_left _ _ (Nat.pow_pos (by omega))]
    omega
  · have hd0 : d = 0 := by rw [← hd]; simp [List.getD, Nat.le_of_not_lt hl]
    subst hd0
    have h2 := val_lt 4294967296 _ hx
    rw [hv] at h2
    have h3 : (4294967296 : Nat) ^ xs.length ≤ 2 ^ i := by
      rw [show (4294967296 : Nat) = 2 ^ 32 by decide, ← Nat.pow_mul]
      exact Nat.pow_le_pow_right (by omega) (by omega)
    have e : m / 2 ^ i = 0 := Nat.div_eq_of_lt (by omega)
    rw [e, Nat.zero_div]
theorem low_zero (m i d q : Nat) (xs : List Nat) (hx : Dg 4294967296 xs) (hl : i / 32 < xs.length) (hv : val 4294967296 xs = q * 2 ^ (i + 1)) (hd : xs.getD (i / 32) 0 = d) : d % 2 ^ (i % 32 + 1) = 0 := by
  have h1 := val_split 4294967296 xs (i / 32)
  have e1 : (xs.take (i / 32)).length = i / 32 := by simp; omega
  rw [e1, val_drop _ _ _ hl, hd, hv] at h1
  have h2 := val_lt 4294967296 _ (hx.take (i / 32))
  rw [e1] at h2
  have e2 : (4294967296 : Nat) ^ (i / 32) = 2 ^ (32 * (i / 32)) := by rw [Nat.pow_mul]
  have e3 : 2 ^ (i + 1) = 2 ^ (32 * (i / 32)) * 2 ^ (i % 32 + 1) := by rw [← Nat.pow_add]; congr 1; omega
  rw [e2] at h1 h2
  rw [e3] at h1
  obtain ⟨r, hr⟩ : ∃ r, val 4294967296 (xs.drop (i / 32 + 1)) = r := ⟨_, rfl⟩
  obtain ⟨lo, hlo⟩ : ∃ r, val 4294967296 (xs.take (i / 32)) = r := ⟨_, rfl⟩
  rw [hr, hlo] at h1
  rw [hlo] at h2
  have hp : 0 < 2 ^ (32 * (i / 32)) := Nat.pow_pos (by omega)
  have h3 : (q * (2 ^ (32 * (i / 32)) * 2 ^ (i % 32 + 1))) / 2 ^ (32 * (i / 32)) = d + 4294967296 * r := by
    rw [h1, Nat.add_mul_div_left _ _ hp, Nat.div_eq_of_lt h2, Nat.zero_add]
  have h4 : q * (2 ^ (32 * (i / 32)) * 2 ^ (i % 32 + 1)) = 2 ^ (32 * (i / 32)) * (q * 2 ^ (i % 32 + 1)) := by
    rw [← Nat.mul_assoc, Nat.mul_comm q, Nat.mul_assoc]
  rw [h4, Nat.mul_div_cancel_left _ hp] at h3
  have e4 : (4294967296 : Nat) = 2 ^ (i % 32 + 1) * 2 ^ (31 - i % 32) := by
    rw [← Nat.pow_add]
    have : i % 32 + 1 + (31 - i % 32) = 32 := by omega
    rw [this]
  rw [e4, Nat.mul_assoc] at h3
  have h5 : (d + 2 ^ (i % 32 + 1) * (2 ^ (31 - i % 32) * r)) % 2 ^ (i % 32 + 1) = 0 := by rw [← h3]; exact Nat.mul_mod_left _ _
  rwa [Nat.add_mul_mod_self_left] at h5
theorem or_bit (d s : Nat) (hd : d < 4294967296) (hs : s < 32) (h0 : d % 2 ^ (s + 1) = 0) : bits BinOp.or IntKind.u32 (d : Int) (2 ^ s % 4294967296) = ((d + 2 ^ s : Nat) : Int) ∧ d + 2 ^ s < 4294967296 := by
  have h1 : 2 ^ s < 4294967296 := by
    have : 2 ^ s < 2 ^ 32 := Nat.pow_lt_pow_right (by omega) hs
    simpa using this
  have e : ((2 : Int) ^ s % 4294967296) = ((2 ^ s : Nat) : Int) := by
    have : ((2 : Int) ^ s) = ((2 ^ s : Nat) : Int) := by simp
    rw [this]; omega
  have h2 := Nat.two_pow_add_eq_or_of_lt (i := s + 1) (b := 2 ^ s) (Nat.pow_lt_pow_right (by omega) (by omega)) (d / 2 ^ (s + 1))
  have h3 : 2 ^ (s + 1) * (d / 2 ^ (s + 1)) = d := by have := Nat.div_add_mod d (2 ^ (s + 1)); omega
  rw [h3] at h2
  refine ⟨by rw [e, u32_or_nat d _ hd h1, ← h2], ?_⟩
  rw [h2]
  exact lt32_or _ _ hd h1
theorem set_bit (i d q : Nat) (xs : List Nat) (hl : i / 32 < xs.length) (hv : val 4294967296 xs = q * 2 ^ (i + 1)) (hd : xs.getD (i / 32) 0 = d) : val 4294967296 (xs.set (i / 32) (d + 2 ^ (i % 32))) = (2 * q + 1) * 2 ^ i := by
  have h := val_set_in 4294967296 xs (i / 32) xs.length (d + 2 ^ (i % 32)) hl (Nat.le_refl _)
  rw [List.take_of_length_le (by simp), List.take_length, hd, hv, Nat.mul_add] at h
  have e2 : (4294967296 : Nat) ^ (i / 32) * 2 ^ (i % 32) = 2 ^ i := by
    rw [show (4294967296 : Nat) = 2 ^ 32 by decide, ← Nat.pow_mul, ← Nat.pow_add]; congr 1; omega
  rw [e2] at h
  have e3 : 2 ^ (i + 1) = 2 * 2 ^ i := by rw [Nat.pow_succ, Nat.mul_comm]
  rw [e3] at h
  rw [Nat.add_mul, Nat.one_mul, Nat.mul_comm 2 q, Nat.mul_assoc]
  omega
theorem bit_test (d s : Nat) (hd : d < 4294967296) : bits BinOp.and IntKind.u32 ((d : Int) / 2 ^ s) 1 = ((d / 2 ^ s % 2 : Nat) : Int) := by
  have e : (d : Int) / 2 ^ s = ((d / 2 ^ s : Nat) : Int) := by simp
  have h1 : d / 2 ^ s < 4294967296 := Nat.lt_of_le_of_lt (Nat.div_le_self _ _) hd
  rw [e]
  have := u32_and_nat (d / 2 ^ s) 1 h1 (by omega)
  rw [Nat.and_one_is_mod] at this
  exact this
theorem part_math (m b i bit : Nat) (hb : 0 < b) (hbit : m / 2 ^ i % 2 = bit) :
    (2 * (m / 2 ^ (i + 1) % b) + bit < b → m / 2 ^ i % b = 2 * (m / 2 ^ (i + 1) % b) + bit ∧ m / 2 ^ i / b = 2 * (m / 2 ^ (i + 1) / b)) ∧
    (b ≤ 2 * (m / 2 ^ (i + 1) % b) + bit → m / 2 ^ i % b = 2 * (m / 2 ^ (i + 1) % b) + bit - b ∧ m / 2 ^ i / b = 2 * (m / 2 ^ (i + 1) / b) + 1) := by
  have e1 : m / 2 ^ (i + 1) = m / 2 ^ i / 2 := by rw [Nat.pow_succ, Nat.div_div_eq_div_mul]
  rw [e1]
  obtain ⟨M, hM⟩ : ∃ M, m / 2 ^ i = M := ⟨_, rfl⟩
  rw [hM] at hbit ⊢
  obtain ⟨Q, hQ⟩ : ∃ Q, M / 2 / b = Q := ⟨_, rfl⟩
  obtain ⟨R, hR⟩ : ∃ R, M / 2 % b = R := ⟨_, rfl⟩
  rw [hQ, hR]
  have h1 := Nat.div_add_mod (M / 2) b
  rw [hQ, hR] at h1
  have hRb : R < b := by rw [← hR]; exact Nat.mod_lt _ hb
  have h2 : M = b * (2 * Q) + (2 * R + bit) := by
    have h3 : b * (2 * Q) = 2 * (b * Q) := by rw [← Nat.mul_assoc, Nat.mul_comm b 2, Nat.mul_assoc]
    omega
  constructor
  · intro h
    constructor
    · rw [h2, Nat.mul_add_mod, Nat.mod_eq_of_lt h]
    · rw [h2, Nat.mul_add_div hb, Nat.div_eq_of_lt h, Nat.add_zero]
  · intro h
    have h4 : M = b * (2 * Q + 1) + (2 * R + bit - b) := by rw [Nat.mul_add]; omega
    constructor
    · rw [h4, Nat.mul_add_mod, Nat.mod_eq_of_lt (by omega)]
    · rw [h4, Nat.mul_add_div hb, Nat.div_eq_of_lt (by omega), Nat.add_zero]
set_option maxHeartbeats 1600000 in
theorem part_core (X Y : Option Addr) (nx cx ny cy m b : Nat) (w : World) (h : Sl TU w X nx cx (L m)) (h' : Sl TU w Y ny cy (L b)) (hb : 0 < b) (hs : nx ≤ 100000000000) (hs' : dl B32 b ≤ 100000000000) :
    Calls Try.prog 129 #[.slice X nx cx, .slice Y ny cy] w (Ret (fun v w' => ∃ v1 v2, v = .tuple #[v1, v2] ∧ SL TU w' v1 (L (m / b)) ∧ SL TU w' v2 (L (m % b))) w) := by
  have hc := h.cap
  have hc' := h'.cap
  have hn := h.le
  have hn' := h'.le
  have hl := h.len
  simp only [L, List.length_map] at hl
  have hm := lt_pow_dl B32 two_B32 m
  unfold dl at hm
  rw [hl] at hm
  have HM := Lib.hid hm
  have HDB := Lib.hid hs'
  clear hs'
  have HH := Lib.hid h
  have HH' := Lib.hid h'
  clear h h' hl hm
  have hmk := make_u32 nx (nx : Int) rfl (by omega)
  go_enter Try.func129, Try.ntmps129
  go_wp2
  clear hmk
  refine wp_world (fun W0 => Blk W0 w.heap.size TU (zer nx) ∧ Below w.heap.size w W0) (by exact ⟨Blk.new_ _ _ rfl, by go_grown⟩) ?_
  rintro W0 ⟨b0, hbw⟩
  have hst : Held w.heap.size nx TU W0 W0 := by have := b0.heldS; simpa [zer] using this
  have I0 : MulInv W0 w.heap.size nx W0 (List.replicate nx 0) := ⟨hst, b0, by simp, Dg.replicate (by unfold B32; omega) _⟩
  have HI0 := Lib.hid I0
  clear b0 hst I0
  go_loopw [7, 8] (fun r i wr => ∃ (k : Nat) (qs : List Nat) (A1 : Option Addr) (n1 c1 : Nat), k ≤ 32 * nx ∧ i = .int .i64 ((k : Int) - 1) ∧ r = .slice A1 n1 c1 ∧ Off w.heap.size A1 ∧ Sl TU wr A1 n1 c1 (L (m / 2 ^ k % b)) ∧ MulInv W0 w.heap.size nx wr qs ∧ val B32 qs = m / 2 ^ k / b * 2 ^ k) (fun _ i _ => (intOf i + 1).toNat)
  case atStart =>
    have e0 : m / 2 ^ (32 * nx) = 0 := by
      have := HM.out
      rw [show B32 = 2 ^ 32 by decide, ← Nat.pow_mul] at this
      exact Nat.div_eq_of_lt this
    refine ⟨32 * nx, List.replicate nx 0, none, 0, 0, Nat.le_refl _, by go_num, rfl, (fun a h => by injection h), ?_, HI0.out, ?_⟩
    · rw [e0, Nat.zero_mod]; exact Sl.nil _ _
    · rw [e0]; simp [val_zeros]
  case round =>
    obtain ⟨k, qs, A1, n1, c1, hk, rfl, rfl, hoff, hr, hI, hv⟩ := hrel
    have HR := Lib.hid hr
    have HI := Lib.hid hI
    have HV := Lib.hid hv
    have HO := Lib.hid hoff
    clear hr hI hv hoff
    by_cases hk0 : 0 < k
    · obtain ⟨i, rfl⟩ : ∃ i, k = i + 1 := ⟨k - 1, by omega⟩
      have ei : ((i + 1 : Nat) : Int) - 1 = (i : Int) := by omega
      rw [ei]
      clear ei
      have hbwr := HI.out.held.below hbw (Nat.le_refl _)
      go_wp2_with fail
      have hdr : dl B32 (m / 2 ^ (i + 1) % b) ≤ 1000000000000 := by have h1 := Nat.mod_lt (m / 2 ^ (i + 1)) hb; have h2 := dl_mono B32 two_B32 (m / 2 ^ (i + 1) % b) b (by omega); have := HDB.out; omega
      refine (plus_fr _ _ _ _ _ _ _ _ _ HR.out HR.out hdr hdr).mono ?_
      rintro e w1 ⟨v1, rfl, ⟨n2, c2, rfl, h2⟩, hb1⟩
      obtain ⟨bx, ox, rfl, hcell⟩ := HH.out.at_u32 (by omega)
      have hcx : w1.cell? ⟨bx, ox + i / 32, none⟩ = some (.int .u32 (((digs B32 m).getD (i / 32) 0 : Nat) : Int)) := by
        rw [(bt hbwr hb1).cell (p := ⟨bx, ox + i / 32, none⟩) (World.block_lt_of_cell? w _ (hcell (i / 32) (by omega)))]
        exact hcell (i / 32) (by omega)
      clear hcell
      obtain ⟨d, hd⟩ : ∃ d, (digs B32 m).getD (i / 32) 0 = d := ⟨_, rfl⟩
      have hdl := (digs_dg B32 two_B32 m).getD (by unfold B32; omega) (i / 32)
      rw [hd] at hcx hdl
      rw [B32_eq] at hdl
      have hbt := bit_test d (i % 32) hdl
      have hbm := bit_dig B32 m i d _ B32_eq (digs_dg B32 two_B32 m) (val_digs B32 two_B32 m) hd
      have HB1 := Lib.hid hb1
      have HRB := Lib.hid (Nat.mod_lt (m / 2 ^ (i + 1)) hb)
      rcases Nat.mod_two_eq_zero_or_one (m / 2 ^ i) with hbit | hbit
      · have hct : (bits BinOp.and IntKind.u32 ((d : Int) / 2 ^ (i % 32)) 1 == 1) = false := by rw [hbt, hbm, hbit]; rfl
        have HPM := Lib.hid (part_math m b i 0 hb hbit)
        clear hbt hbm hd hb1 hbit
        have hbw1 := bt hbwr HB1.out
        have HBW1 := Lib.hid hbw1
        clear hbw1
        have hoff2 : Off w.heap.size (some ⟨wr.heap.size, 0, none⟩) := fun a ha => by injection ha with ha; subst ha; have := HI.out.held.lt; simp <;> omega
        have HO2 := Lib.hid hoff2
        clear hoff2
        rw [← Nat.two_mul] at h2
        go_wp2_with fail
        refine (wsize_any _ _ _ _ _ _ _ _ _ h2 (HH'.out.below HBW1.out)).mono ?_
        rintro e w4 ⟨v4, rfl, ⟨r, rfl, hr1, hr2⟩, hb4⟩
        by_cases hge : b ≤ 2 * (m / 2 ^ (i + 1) % b) + 0
        · have hr0 : 0 ≤ r := by omega
          clear hr1 hr2
          have HB4 := Lib.hid hb4
          clear hb4
          go_wp2_with fail
          refine (minus_fr _ _ _ _ _ _ _ _ _ (h2.below HB4.out) ((HH'.out.below HBW1.out).below HB4.out) hge ?_).mono ?_
          · have := HRB.out; have h5 := dl_add B32 two_B32 (m / 2 ^ (i + 1) % b) (m / 2 ^ (i + 1) % b + 1) (dl B32 b) (dl_mono _ two_B32 _ _ (by omega)) (dl_mono _ two_B32 _ _ (by omega)); have h6 := dl_mono B32 two_B32 (2 * (m / 2 ^ (i + 1) % b) + 0) (m / 2 ^ (i + 1) % b + (m / 2 ^ (i + 1) % b + 1)) (by omega); have h7 := dl_mono B32 two_B32 (2 * (m / 2 ^ (i + 1) % b)) (m / 2 ^ (i + 1) % b + (m / 2 ^ (i + 1) % b + 1)) (by omega); have := HDB.out; omega
          rintro e w3 ⟨v3, rfl, ⟨n3, c3, rfl, h3⟩, hb3⟩
          have hI3 : MulInv W0 w.heap.size nx w3 qs := HI.out.below_ (bt (bt HB1.out HB4.out) hb3)
          have hcq := blk_cell hI3.blk (j := i / 32) (by rw [hI3.len]; omega)
          have hfq := hI3.blk.free (i / 32)
          have hdq := hI3.dg.getD (by unfold B32; omega) (i / 32)
          rw [B32_eq] at hdq
          obtain ⟨dq, hdq'⟩ : ∃ d, qs.getD (i / 32) 0 = d := ⟨_, rfl⟩
          rw [hdq'] at hcq hdq
          have hor := or_bit dq (i % 32) hdq (by omega) (low_zero m i dq _ qs (by have := hI3.dg; rwa [B32_eq] at this) (by rw [hI3.len]; omega) (by have := HV.out; rwa [B32_eq] at this) hdq')
          have hset := set_bit i dq _ qs (by rw [hI3.len]; omega) (by have := HV.out; rwa [B32_eq] at this) hdq'
          have HI3 := Lib.hid hI3
          have HOR := Lib.hid hor
          have HSET := Lib.hid hset
          have HPM2 := Lib.hid (HPM.out.2 hge)
          have hoff3 : Off w.heap.size (some ⟨w4.heap.size, 0, none⟩) := fun a ha => by injection ha with ha; subst ha; have := HI.out.held.lt; have := HB1.out.size; have := HB4.out.size; simp <;> omega
          have HO3 := Lib.hid hoff3
          clear hdq' hI3 hge hor hset hoff3
          go_wp2
          go_region
          all_goals go_wp2
          rw [HOR.out.1]
          refine ⟨⟨i, qs.set (i / 32) (dq + 2 ^ (i % 32)), _, n3, c3, by omega, by go_num, rfl, HO3.out, ?_, ?_, ?_⟩, by first | (simp [intOf]; done) | (simp [intOf]; omega)⟩
          · rw [HPM2.out.1]; exact (h3.far HO3.out _ _).below (Below.refl _ _).drew
          · exact (HI3.out.set_ _ _ (by rw [B32_eq]; exact HOR.out.2)).below_ (Below.refl _ _).drew
          · rw [HPM2.out.2, B32_eq]; exact HSET.out
        · have hr0 : r < 0 := by omega
          clear hr1 hr2
          have HPM2 := Lib.hid (HPM.out.1 (by omega))
          have hI4 := HI.out.below_ (bt HB1.out hb4)
          have h4 := h2.below hb4
          have HI4 := Lib.hid hI4
          have H4 := Lib.hid h4
          clear hb4 hge hI4 h4 h2
          go_wp2
          go_roundw
          case rel =>
            refine ⟨i, qs, _, n2, c2, by omega, by go_num, rfl, HO2.out, ?_, HI4.out, ?_⟩
            · rw [HPM2.out.1]; exact H4.out
            · rw [HPM2.out.2, HV.out, Nat.pow_succ, Nat.mul_comm (2 ^ i) 2, ← Nat.mul_assoc, Nat.mul_comm _ 2]
          case measure => first | (simp [intOf]; done) | (simp [intOf]; omega)
      · have hct : (bits BinOp.and IntKind.u32 ((d : Int) / 2 ^ (i % 32)) 1 == 1) = true := by rw [hbt, hbm, hbit]; rfl
        have HPM := Lib.hid (part_math m b i 1 hb hbit)
        clear hbt hbm hd hb1 hbit
        go_wp2_with fail
        have hba : Below w1.heap.size w1 (w1.alloc (.cells #[.int .u32 1] TU)) := by go_grown
        have hone : Sl TU (w1.alloc (.cells #[.int .u32 1] TU)) (some ⟨w1.heap.size, 0, none⟩) 1 1 (L 1) := Blk.sl (xs := L 1) (Blk.new_ _ _ rfl) (by rfl) (by decide)
        refine (plus_fr _ _ _ _ _ _ _ _ _ (h2.below hba) hone ?_ (by decide)).mono ?_
        · have := HRB.out; have h5 := dl_add B32 two_B32 (m / 2 ^ (i + 1) % b) (m / 2 ^ (i + 1) % b) (dl B32 b) (dl_mono _ two_B32 _ _ (by omega)) (dl_mono _ two_B32 _ _ (by omega)); have := HDB.out; omega
        rintro e w2 ⟨v2, rfl, ⟨n2, c2, rfl, h2⟩, hb2⟩
        have HBC := Lib.hid (bt HB1.out (bt hba hb2))
        have hoff2 : Off w.heap.size (some ⟨(w1.alloc (.cells #[.int .u32 1] TU)).heap.size, 0, none⟩) := fun a ha => by injection ha with ha; subst ha; have := HI.out.held.lt; have := HB1.out.size; simp <;> omega
        have HO2 := Lib.hid hoff2
        rw [← Nat.two_mul] at h2
        have HBW1 := Lib.hid (bt hbwr HBC.out)
        clear hoff2 hba hone hb2 hcx
        simp only [World.size_alloc] at HO2 h2
        go_wp2_with fail
        refine (wsize_any _ _ _ _ _ _ _ _ _ h2 (HH'.out.below HBW1.out)).mono ?_
        rintro e w4 ⟨v4, rfl, ⟨r, rfl, hr1, hr2⟩, hb4⟩
        by_cases hge : b ≤ 2 * (m / 2 ^ (i + 1) % b) + 1
        · have hr0 : 0 ≤ r := by omega
          clear hr1 hr2
          have HB4 := Lib.hid hb4
          clear hb4
          go_wp2_with fail
          refine (minus_fr _ _ _ _ _ _ _ _ _ (h2.below HB4.out) ((HH'.out.below HBW1.out).below HB4.out) hge ?_).mono ?_
          · have := HRB.out; have h5 := dl_add B32 two_B32 (m / 2 ^ (i + 1) % b) (m / 2 ^ (i + 1) % b + 1) (dl B32 b) (dl_mono _ two_B32 _ _ (by omega)) (dl_mono _ two_B32 _ _ (by omega)); have h6 := dl_mono B32 two_B32 (2 * (m / 2 ^ (i + 1) % b) + 1) (m / 2 ^ (i + 1) % b + (m / 2 ^ (i + 1) % b + 1)) (by omega); have h7 := dl_mono B32 two_B32 (2 * (m / 2 ^ (i + 1) % b)) (m / 2 ^ (i + 1) % b + (m / 2 ^ (i + 1) % b + 1)) (by omega); have := HDB.out; omega
          rintro e w3 ⟨v3, rfl, ⟨n3, c3, rfl, h3⟩, hb3⟩
          have hI3 : MulInv W0 w.heap.size nx w3 qs := HI.out.below_ (bt (bt HBC.out HB4.out) hb3)
          have hcq := blk_cell hI3.blk (j := i / 32) (by rw [hI3.len]; omega)
          have hfq := hI3.blk.free (i / 32)
          have hdq := hI3.dg.getD (by unfold B32; omega) (i / 32)
          rw [B32_eq] at hdq
          obtain ⟨dq, hdq'⟩ : ∃ d, qs.getD (i / 32) 0 = d := ⟨_, rfl⟩
          rw [hdq'] at hcq hdq
          have hor := or_bit dq (i % 32) hdq (by omega) (low_zero m i dq _ qs (by have := hI3.dg; rwa [B32_eq] at this) (by rw [hI3.len]; omega) (by have := HV.out; rwa [B32_eq] at this) hdq')
          have hset := set_bit i dq _ qs (by rw [hI3.len]; omega) (by have := HV.out; rwa [B32_eq] at this) hdq'
          have HI3 := Lib.hid hI3
          have HOR := Lib.hid hor
          have HSET := Lib.hid hset
          have HPM2 := Lib.hid (HPM.out.2 hge)
          have hoff3 : Off w.heap.size (some ⟨w4.heap.size, 0, none⟩) := fun a ha => by injection ha with ha; subst ha; have := HI.out.held.lt; have := HBC.out.size; have := HB4.out.size; simp <;> omega
          have HO3 := Lib.hid hoff3
          clear hdq' hI3 hge hor hset hoff3
          go_wp2
          go_region
          all_goals go_wp2
          rw [HOR.out.1]
          refine ⟨⟨i, qs.set (i / 32) (dq + 2 ^ (i % 32)), _, n3, c3, by omega, by go_num, rfl, HO3.out, ?_, ?_, ?_⟩, by first | (simp [intOf]; done) | (simp [intOf]; omega)⟩
          · rw [HPM2.out.1]; exact (h3.far HO3.out _ _).below (Below.refl _ _).drew
          · exact (HI3.out.set_ _ _ (by rw [B32_eq]; exact HOR.out.2)).below_ (Below.refl _ _).drew
          · rw [HPM2.out.2, B32_eq]; exact HSET.out
        · have hr0 : r < 0 := by omega
          clear hr1 hr2
          have HPM2 := Lib.hid (HPM.out.1 (by omega))
          have hI4 := HI.out.below_ (bt HBC.out hb4)
          have h4 := h2.below hb4
          have HI4 := Lib.hid hI4
          have H4 := Lib.hid h4
          clear hb4 hge hI4 h4 h2
          go_wp2
          go_roundw
          case rel =>
            refine ⟨i, qs, _, n2, c2, by omega, by go_num, rfl, HO2.out, ?_, HI4.out, ?_⟩
            · rw [HPM2.out.1]; exact H4.out
            · rw [HPM2.out.2, HV.out, Nat.pow_succ, Nat.mul_comm (2 ^ i) 2, ← Nat.mul_assoc, Nat.mul_comm _ 2]
          case measure => first | (simp [intOf]; done) | (simp [intOf]; omega)
    · have : k = 0 := by omega
      subst this
      have hsl := Blk.sl HI.out.blk rfl (by simp [HI.out.len]; omega)
      have hlen : (qs.map U32).length = nx := by simp [HI.out.len]
      rw [hlen] at hsl
      have hv0 : val B32 qs = m / b := by have := HV.out; simpa using this
      have HSL := Lib.hid hsl
      have HV0 := Lib.hid hv0
      clear hsl hlen hv0
      go_wp2_with (go_at_call 99; refine (trim_any _ _ _ _ _ HSL.out HI.out.dg).mono ?_; rintro e w1 ⟨⟨v1, rfl, h1⟩, rfl⟩)
      go_returns
      refine ⟨_, rfl, ⟨_, _, rfl, by rw [← HV0.out]; exact h1, ?_⟩, HI.out.held.below hbw (Nat.le_refl _)⟩
      have := HR.out
      rw [Nat.pow_zero, Nat.div_one] at this
      exact this.toSL
end Go.Proofs.Tb
