/- Contracts of package wide: Sign; Of; the product of two whole numbers. -/
import Derived.Test.YtcbffkkcldnegaaWideE
set_option linter.unusedVariables false
set_option linter.unusedSimpArgs false
namespace Go.Proofs.Tb
open Go.RowKit
attribute [local go_sem] cell_set_same

set_option maxHeartbeats 400000 in
theorem wsign_any (v : Value) (z : Int) (w : World) (h : WI w v z) : Calls Try.prog 127 #[v] w (Ret (fun v _ => v = .int .i64 z.sign) w) := by
  obtain ⟨A, n, c, rfl, h⟩ := h
  have hp := h.pos_iff
  have hn := h.le
  have hc := h.cap
  clear h
  by_cases h0 : z = 0
  · have hn0 : n = 0 := by omega
    subst hn0
    clear hp
    have HZ := Lib.hid h0
    clear h0
    go_enter Try.func127, Try.ntmps127
    go_wp2
    go_returns
    exact ⟨_, rfl, by rw [HZ.out]; rfl, by go_grown⟩
  · have hn0 : ((n : Int) == 0) = false := by rw [beq_eq_false_iff_ne]; omega
    clear hp
    obtain ⟨s, hs⟩ : ∃ s, ng z = s := ⟨_, rfl⟩
    rw [hs]
    have HS := Lib.hid hs
    have HZ := Lib.hid h0
    clear hs h0
    cases s
    · go_enter Try.func127, Try.ntmps127
      go_wp2
      go_returns
      exact ⟨_, rfl, by rw [Int.sign_eq_one_of_pos (by have := HZ.out; have := HS.out; unfold ng at this; simp at this; omega)]; rfl, by go_grown⟩
    · go_enter Try.func127, Try.ntmps127
      go_wp2
      go_returns
      exact ⟨_, rfl, by rw [Int.sign_eq_neg_one_of_neg (by have := HS.out; unfold ng at this; simpa using this)]; rfl, by go_grown⟩
theorem sz_add (x y : Int) : sz (x + y) ≤ sz x + sz y + 1 := by
  unfold sz
  have h1 := dl_add B32 two_B32 x.natAbs y.natAbs (dl B32 x.natAbs + dl B32 y.natAbs) (by omega) (by omega)
  have h2 := dl_mono B32 two_B32 (x + y).natAbs (x.natAbs + y.natAbs) (Int.natAbs_add_le x y)
  omega
theorem sz_add_max (x y : Int) (s : Nat) (h : sz x ≤ s) (h' : sz y ≤ s) : sz (x + y) ≤ s + 1 := by
  unfold sz at *
  have h1 := dl_add B32 two_B32 x.natAbs y.natAbs s h h'
  have h2 := dl_mono B32 two_B32 (x + y).natAbs (x.natAbs + y.natAbs) (Int.natAbs_add_le x y)
  omega
theorem sz_mul (x y : Int) : sz (x * y) ≤ sz x + sz y := by
  unfold sz
  rw [Int.natAbs_mul]
  exact dl_mul B32 two_B32 _ _
theorem sz_neg (x : Int) : sz (-x) = sz x := by unfold sz; rw [Int.natAbs_neg]
theorem sz_sub (x y : Int) : sz (x - y) ≤ sz x + sz y + 1 := by
  have := sz_add x (-y)
  rw [sz_neg] at this
  exact this
/-- An int of Go's has at most two limbs. -/
theorem sz_small (x : Int) (h : -9223372036854775808 ≤ x) (h' : x ≤ 9223372036854775807) : sz x ≤ 2 := by
  unfold sz
  refine dl_le B32 two_B32 2 _ ?_
  have : B32 ^ 2 = 18446744073709551616 := by decide
  rw [this]; omega
theorem val_set_in (B : Nat) (cs : List Nat) (k t v : Nat) (hk : k < t) (ht : t ≤ cs.length) : val B ((cs.set k v).take t) + B ^ k * cs.getD k 0 = val B (cs.take t) + B ^ k * v := by
  have h1 := val_split B (cs.take t) k
  have h2 := val_split B ((cs.set k v).take t) k
  have e1 : (List.take k (List.take t cs)).length = k := by simp; omega
  have e2 : (List.take k (List.take t (cs.set k v))).length = k := by simp; omega
  rw [e1] at h1
  rw [e2] at h2
  have d1 := val_drop B (cs.take t) k (by simp; omega)
  have d2 := val_drop B ((cs.set k v).take t) k (by simp; omega)
  have g1 : (cs.take t).getD k 0 = cs.getD k 0 := by simp [List.getD, hk]
  have g2 : ((cs.set k v).take t).getD k 0 = v := by
    have : k < cs.length := by omega
    simp [List.getD, hk, this]
  have g3 : List.take k (List.take t (cs.set k v)) = List.take k (List.take t cs) := by
    rw [List.take_take, List.take_take, Nat.min_eq_left (by omega), List.take_set_of_le (by omega)]
  have g4 : List.drop (k + 1) (List.take t (cs.set k v)) = List.drop (k + 1) (List.take t cs) := by
    rw [List.drop_take, List.drop_take, List.drop_set_of_lt (by omega)]
  rw [g1] at d1
  rw [g2, g4] at d2
  rw [g3] at h2
  rw [h1, h2, d1, d2, Nat.mul_add, Nat.mul_add]
  omega
theorem mul_step (B k x y d c d' c' V V' P i : Nat) (ys : List Nat) (j : Nat) (hk : k = i + j) (hy : ys.getD j 0 = y) (h : V + c * B ^ k = P + x * B ^ i * val B (ys.take j)) (hv : V' + B ^ k * d = V + B ^ k * d') (hs : c' * B + d' = x * y + d + c) :
    V' + c' * B ^ (k + 1) = P + x * B ^ i * val B (ys.take (j + 1)) := by
  rw [val_take_succ', hy, Nat.mul_add]
  have h1 : B ^ k * (c' * B + d') = B ^ k * (x * y + d + c) := by rw [hs]
  rw [Nat.mul_add, Nat.mul_add, Nat.mul_add] at h1
  have h2 : c' * B ^ (k + 1) = B ^ k * (c' * B) := by rw [Nat.pow_succ, ← Nat.mul_assoc, Nat.mul_comm (c' * B ^ k) B, Nat.mul_comm (B ^ k), Nat.mul_comm c' B, Nat.mul_assoc]
  have h3 : x * B ^ i * (B ^ j * y) = B ^ k * (x * y) := by
    rw [hk, Nat.pow_add]
    rw [Nat.mul_comm x, Nat.mul_assoc, ← Nat.mul_assoc x, Nat.mul_comm x, Nat.mul_assoc, Nat.mul_assoc]
  have h4 : c * B ^ k = B ^ k * c := Nat.mul_comm _ _
  rw [h2, h3]
  omega
theorem mul_le_sq (x y : Nat) (hx : x < B32) (hy : y < B32) : x * y ≤ 18446744065119617025 := by
  unfold B32 at *
  calc x * y ≤ 4294967295 * 4294967295 := Nat.mul_le_mul (by omega) (by omega)
    _ = 18446744065119617025 := by decide

/-- What the rounds of Mul need: the digits, and the product so far. -/
structure MulInv (W0 : World) (G nm : Nat) (wr : World) (cs : List Nat) : Prop where
  held : Held G nm TU W0 wr
  blk : Blk wr G TU (cs.map U32).toArray
  len : cs.length = nm
  dg : Dg B32 cs
theorem MulInv.set_ {W0 wr : World} {G nm : Nat} {cs : List Nat} (h : MulInv W0 G nm wr cs) (j v : Nat) (hv : v < B32) : MulInv W0 G nm (wr.setCell ⟨G, j, none⟩ (U32 v)) (cs.set j v) :=
  ⟨h.held.set_ j _, blk_set h.blk j v, by simpa using h.len, h.dg.set_ j v hv⟩

set_option maxHeartbeats 3200000 in
theorem wmul_any (v v' : Value) (x y : Int) (w : World) (h : WI w v x) (h' : WI w v' y) (hs : sz x + sz y ≤ 1000000000000) :
    Calls Try.prog 100 #[v, v'] w (Ret (fun v w' => WI w' v (x * y)) w) := by
  obtain ⟨A, n, c, rfl, h⟩ := h
  obtain ⟨A', n', c', rfl, h'⟩ := h'
  have hn := h.le
  have hn' := h'.le
  have hc := h.cap
  have hc' := h'.cap
  have hl := h.len
  have hl' := h'.len
  simp only [L, List.length_map] at hl hl'
  have hsum : n + n' ≤ 1000000000000 := by unfold sz dl at hs; omega
  obtain ⟨xs, hxs⟩ : ∃ xs, digs B32 x.natAbs = xs := ⟨_, rfl⟩
  obtain ⟨ys, hys⟩ : ∃ ys, digs B32 y.natAbs = ys := ⟨_, rfl⟩
  have hvx : val B32 xs = x.natAbs := by rw [← hxs]; exact val_digs B32 two_B32 _
  have hvy : val B32 ys = y.natAbs := by rw [← hys]; exact val_digs B32 two_B32 _
  have hdx : Dg B32 xs := by rw [← hxs]; exact digs_dg B32 two_B32 _
  have hdy : Dg B32 ys := by rw [← hys]; exact digs_dg B32 two_B32 _
  unfold L at h h'
  rw [hxs] at h hl
  rw [hys] at h' hl'
  have H := Lib.hid h
  have H' := Lib.hid h'
  have HL := Lib.hid hl
  have HL' := Lib.hid hl'
  have HVX := Lib.hid hvx
  have HVY := Lib.hid hvy
  have HDX := Lib.hid hdx
  have HDY := Lib.hid hdy
  clear h h' hl hl' hvx hvy hdx hdy hxs hys hs
  obtain ⟨s, hsx⟩ : ∃ s, ng x = s := ⟨_, rfl⟩
  obtain ⟨s', hsy⟩ : ∃ s, ng y = s := ⟨_, rfl⟩
  have HN : Hid ((s != s') = ng (x * y) ∨ x * y = 0) := by
    show (s != s') = ng (x * y) ∨ x * y = 0
    rw [← hsx, ← hsy]
    unfold ng
    by_cases hx0 : x = 0
    · right; rw [hx0, Int.zero_mul]
    by_cases hy0 : y = 0
    · right; rw [hy0, Int.mul_zero]
    left
    by_cases hx : x < 0 <;> by_cases hy : y < 0
    · have := Int.mul_pos_of_neg_of_neg hx hy
      simp [hx, hy]; omega
    · have := Int.mul_neg_of_neg_of_pos hx (show 0 < y by omega)
      simp [hx, hy, this]
    · have := Int.mul_neg_of_pos_of_neg (show 0 < x by omega) hy
      simp [hx, hy, this]
    · have := Int.mul_pos (show 0 < x by omega) (show 0 < y by omega)
      simp [hx, hy]; omega
  rw [hsx, hsy]
  clear hsx hsy
  have hmk := make_u32 (n + n') ((n : Int) + (n' : Int)) (by omega) (by omega)
  go_enter Try.func100, Try.ntmps100
  go_wp2
  refine wp_world (fun W0 => Blk W0 w.heap.size TI #[.bool s, .slice A n c] ∧ Blk W0 (w.heap.size + 1) TI #[.bool s', .slice A' n' c'] ∧ Blk W0 (w.heap.size + 1 + 1) TI #[.bool false, .slice none 0 0] ∧ Blk W0 (w.heap.size + 1 + 1 + 1) TU (zer (n + n')) ∧ Below w.heap.size w W0) (by exact ⟨(((Blk.new_ _ _ rfl).alloc _).alloc _).alloc _, ((Blk.new_ _ _ (by simp)).alloc _).alloc _, (Blk.new_ _ _ (by simp)).alloc _, Blk.new_ _ _ (by simp), by go_grown⟩) ?_
  rintro W0 ⟨b0, b1, b2, b3, hbw⟩
  clear hmk
  have k1 := fun w' (hh : Held (w.heap.size + 1 + 1 + 1) (n + n') TU W0 w') => (b1.held hh (by omega)).cells
  simp only [cellsAre, Nat.zero_add, Nat.reduceAdd, and_true] at k1
  have B0 := Lib.hid b0
  have B1 := Lib.hid b1
  have B2 := Lib.hid b2
  have K1 := Lib.hid k1
  have hst : Held (w.heap.size + 1 + 1 + 1) (n + n') TU W0 W0 := by have := b3.heldS; simpa [zer] using this
  have I0 : MulInv W0 (w.heap.size + 1 + 1 + 1) (n + n') W0 (List.replicate (n + n') 0) := ⟨hst, b3, by simp, Dg.replicate (by unfold B32; omega) _⟩
  have HI0 := Lib.hid I0
  clear b0 b1 b2 b3 k1 hst I0
  go_loopw [23] (fun i wr => ∃ (k : Nat) (cs : List Nat), k ≤ n ∧ i = .int .i64 k ∧ MulInv W0 (w.heap.size + 1 + 1 + 1) (n + n') wr cs ∧ val B32 (cs.take (k + n')) = val B32 (xs.take k) * val B32 ys) (fun i _ => n - (intOf i).toNat)
  case atStart => exact ⟨0, List.replicate (n + n') 0, Nat.zero_le _, rfl, HI0.out, by simp [val, val_zeros]⟩
  case round =>
    obtain ⟨i, cs, hi, rfl, hI, hv⟩ := hrel
    obtain ⟨wo, rfl⟩ : ∃ wo : World, wo = wr := ⟨_, rfl⟩
    have HI := Lib.hid hI
    have HV := Lib.hid hv
    clear hI hv
    obtain ⟨e10, e11⟩ := K1.out wo HI.out.held
    by_cases hin : i < n
    · obtain ⟨b, o, rfl, hcell⟩ := H.out.at_u32 (by omega)
      have hcx : wo.cell? ⟨b, o + i, none⟩ = some (.int .u32 ((xs.getD i 0 : Nat) : Int)) := by
        rw [(HI.out.held.below hbw (by omega)).cell (p := ⟨b, o + i, none⟩) (World.block_lt_of_cell? w _ (hcell i hin))]
        exact hcell i hin
      clear hcell
      have hd1 := HDX.out.getD (by unfold B32; omega) i
      obtain ⟨dx, hdx⟩ : ∃ d, xs.getD i 0 = d := ⟨_, rfl⟩
      rw [hdx] at hcx hd1
      have HDXI := Lib.hid hdx
      have HD1 := Lib.hid hd1
      clear hdx hd1
      go_wp2
      clear e10 e11 hcx
      go_loopw [8, 31] (fun cy jj wr => ∃ (j cr : Nat) (ds : List Nat), j ≤ n' ∧ cr < B32 ∧ jj = .int .i64 j ∧ cy = .int .u64 cr ∧ MulInv W0 (w.heap.size + 1 + 1 + 1) (n + n') wr ds ∧ val B32 (ds.take (i + n')) + cr * B32 ^ (i + j) = val B32 (cs.take (i + n')) + dx * B32 ^ i * val B32 (ys.take j)) (fun _ jj _ => n' - (intOf jj).toNat)
      case atStart => exact ⟨0, 0, cs, Nat.zero_le _, by unfold B32; omega, rfl, rfl, HI.out, by simp [val]⟩
      case round =>
        obtain ⟨j, cr, ds, hj, hcr, rfl, rfl, hJ, hvj⟩ := hrel
        obtain ⟨wi, rfl⟩ : ∃ wi : World, wi = wr := ⟨_, rfl⟩
        have HJ := Lib.hid hJ
        have HVJ := Lib.hid hvj
        have HCR := Lib.hid hcr
        unfold B32 at hcr
        clear hJ hvj
        obtain ⟨f10, f11⟩ := K1.out wi HJ.out.held
        by_cases hjn : j < n'
        · obtain ⟨b', o', rfl, hcell'⟩ := H'.out.at_u32 (by omega)
          have hcy : wi.cell? ⟨b', o' + j, none⟩ = some (.int .u32 ((ys.getD j 0 : Nat) : Int)) := by
            rw [(HJ.out.held.below hbw (by omega)).cell (p := ⟨b', o' + j, none⟩) (World.block_lt_of_cell? w _ (hcell' j hjn))]
            exact hcell' j hjn
          clear hcell'
          have hd2 := HDY.out.getD (by unfold B32; omega) j
          have hd3 := HJ.out.dg.getD (by unfold B32; omega) (i + j)
          have hcg := blk_cell HJ.out.blk (j := i + j) (by rw [HJ.out.len]; omega)
          have hfr := HJ.out.blk.free (i + j)
          obtain ⟨dy, hdy⟩ : ∃ d, ys.getD j 0 = d := ⟨_, rfl⟩
          obtain ⟨d, hd⟩ : ∃ d, ds.getD (i + j) 0 = d := ⟨_, rfl⟩
          rw [hdy] at hcy hd2
          rw [hd] at hcg hd3
          have HDYJ := Lib.hid hdy
          have HD := Lib.hid hd
          have HD2 := Lib.hid hd2
          have hq := mul_le_sq dx dy HD1.out hd2
          unfold B32 at hd3
          clear hdy hd hd2
          have hq1 : (dx : Int) * (dy : Int) ≤ 18446744065119617025 := by
            have : ((dx * dy : Nat) : Int) ≤ 18446744065119617025 := by omega
            simpa using this
          have hq0 : (0 : Int) ≤ (dx : Int) * (dy : Int) := by
            have : (0 : Int) ≤ ((dx * dy : Nat) : Int) := by omega
            simpa using this
          have e0 : (dx : Int) * (dy : Int) + (d : Int) + (cr : Int) = ((dx * dy + d + cr : Nat) : Int) := by simp
          obtain ⟨t, ht⟩ : ∃ t, dx * dy + d + cr = t := ⟨_, rfl⟩
          have e1 : ((dx : Int) * (dy : Int) + (d : Int) + (cr : Int)) % 4294967296 = ((t % B32 : Nat) : Int) := by rw [e0, ht, B32_eq]; omega
          have e2 : ((dx : Int) * (dy : Int) + (d : Int) + (cr : Int)) / 4294967296 = ((t / B32 : Nat) : Int) := by rw [e0, ht, B32_eq]; omega
          have hlt2 : t / B32 < B32 := by rw [B32_eq]; omega
          have HT := Lib.hid ht
          have E1 := Lib.hid e1
          have E2 := Lib.hid e2
          have HLT2 := Lib.hid hlt2
          clear e0 e1 e2 hq hlt2 ht
          have hd1 := HD1.out
          have hd2 := HD2.out
          rw [B32_eq] at hd1 hd2
          go_wp2
          rw [E1.out, E2.out]
          go_roundw
          case rel => exact ⟨j + 1, t / B32, ds.set (i + j) (t % B32), by omega, HLT2.out, by go_num, rfl, HJ.out.set_ _ _ (Nat.mod_lt _ (by unfold B32; omega)), by
            rw [← Nat.add_assoc]
            exact mul_step B32 (i + j) dx dy d cr _ _ _ _ _ i ys j rfl HDYJ.out HVJ.out (by have := val_set_in B32 ds (i + j) (i + n') (t % B32) (by omega) (by rw [HJ.out.len]; omega); rw [HD.out] at this; exact this) (by have := Nat.div_add_mod t B32; have h2 := HT.out; rw [Nat.mul_comm]; omega)⟩
          case measure => simp [intOf]; omega
        · have : j = n' := by omega
          subst this
          have hcg := blk_cell HJ.out.blk (j := i + j) (by rw [HJ.out.len]; omega)
          have hfr := HJ.out.blk.free (i + j)
          have e1 : (cr : Int) % 4294967296 = (cr : Int) := by omega
          have E1 := Lib.hid e1
          clear e1
          go_wp2
          go_roundw
          case rel =>
            refine ⟨i + 1, ds.set (i + j) cr, by omega, by go_num, HJ.out.set_ _ _ HCR.out, ?_⟩
            have h1 := HVJ.out
            rw [HV.out] at h1
            have h2 := val_set_take B32 ds (i + j) cr (by rw [HJ.out.len]; omega)
            rw [show i + 1 + j = i + j + 1 by omega, h2, val_take_succ', HDXI.out, Nat.add_mul]
            have h3 : val B32 (ys.take j) = val B32 ys := by rw [List.take_of_length_le (by have := HL'.out; omega)]
            rw [h3] at h1
            have h4 : B32 ^ (i + j) * cr = cr * B32 ^ (i + j) := Nat.mul_comm _ _
            have h5 : B32 ^ i * dx * val B32 ys = dx * B32 ^ i * val B32 ys := by rw [Nat.mul_comm (B32 ^ i)]
            omega
          case measure => simp [intOf]; omega
    · have : i = n := by omega
      subst this
      go_wp2
      have hbo := HI.out.held.below hbw (by omega)
      have b0 := B0.out.held HI.out.held (by omega)
      have b1 := B1.out.held HI.out.held (by omega)
      have b2 := B2.out.held HI.out.held (by omega)
      have k0 := fun w' (hh : Held (w.heap.size + 1 + 1) 2 TI wo w') => (b0.held hh (by omega)).cells
      have k1 := fun w' (hh : Held (w.heap.size + 1 + 1) 2 TI wo w') => (b1.held hh (by omega)).cells
      have hst : Held (w.heap.size + 1 + 1) 2 TI wo wo.drew := b2.heldS.drew
      simp only [cellsAre, Nat.zero_add, Nat.reduceAdd, and_true] at k0 k1
      have r1 := (rules (w.heap.size + 1 + 1) 2 TI wo).some
      have r2 := (rules (w.heap.size + 1 + 1) 2 TI wo).free
      have hsl := Blk.sl HI.out.blk rfl (by simp [HI.out.len]; omega)
      have hlen : (cs.map U32).length = i + n' := by simp [HI.out.len]
      rw [hlen] at hsl
      have hval : val B32 cs = (x * y).natAbs := by
        have e0 := HV.out
        rw [List.take_of_length_le (by have := HI.out.len; omega), List.take_of_length_le (by have := HL.out; omega), HVX.out, HVY.out, ← Int.natAbs_mul] at e0
        exact e0
      have HSL := Lib.hid hsl
      have HVAL := Lib.hid hval
      clear b0 b1 b2 e10 e11 hsl hval hlen
      go_region_held3 (fun w' => Held (w.heap.size + 1 + 1) 2 TI wo w') (first | assumption | exact Held.trans_ (by assumption) (by assumption) | exact Held.set_ (Held.set_ (by assumption) _ _) _ _)
        (first | (go_at_call 99; refine (trim_any _ _ _ cs _ (HSL.out.below (Below.refl _ _).drew) HI.out.dg).mono ?_; rintro e w1 ⟨⟨v1, rfl, ⟨A1, n1, c1, rfl, h1⟩⟩, rfl⟩; rw [HVAL.out] at h1) | (go_at_call 115; refine (made_any _ _ _ _ _ (x * y) _ h1 rfl HN.out).mono ?_; rintro e w2 ⟨v2, rfl, ⟨A2, n2, c2, rfl, h2⟩, hb2⟩))
      have hh2 : Held (w.heap.size + 1 + 1) 2 TI wo w2 := hst.trans_ hb2
      go_wp2
      (try simp only [Exit.inBlock, Exit.then])
      refine bodyPost_ret (v := .agg #[.bool (ng (x * y)), .slice A2 n2 c2]) (by simp [results, Try.results100, go_sem, r1 _ hh2]) rfl ?_
      have hst2 := Held.set_ (Held.set_ hh2.here 0 (.bool (ng (x * y)))) 1 (.slice A2 n2 c2)
      exact ⟨_, rfl, ⟨A2, n2, c2, rfl, h2.held hst2 (by decide)⟩, (hh2.trans2 hst2).below hbo (by omega)⟩
end Go.Proofs.Tb
