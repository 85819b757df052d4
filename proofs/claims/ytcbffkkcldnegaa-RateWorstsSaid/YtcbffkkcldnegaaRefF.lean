/- Contracts of the reference's numbers of any size, sixth part: Mul. -/
import Derived.Test.YtcbffkkcldnegaaRefE
set_option linter.unusedVariables false
set_option linter.unusedSimpArgs false
namespace Go.Proofs.Tb
open Go.RowKit
attribute [local go_sem] cell_set_same

/-- n zeros. -/
def zerI (n : Nat) : Array Value := ((List.replicate n 0).map I64).toArray
theorem made_zerI (n : Nat) : madeCells (Value.cells (.int .i64 0)) (n * 1) = zerI n := by
  apply Array.ext'
  apply List.ext_getElem?
  intro j
  simp only [madeCells, zerI, Nat.mul_one, Array.toList_map, Value.cells]
  by_cases hj : j < n
  · simp [hj, I64, Nat.mod_one]
  · simp [hj]
theorem make_int (n : Nat) (x : Int) (hx : x = n) (hn : n ≤ 10995116277760) (W : World) :
    (Instr.makeSlice TS (.int .i64 x) (.int .i64 x)).run Try.prog W = .ok (.slice (some ⟨W.heap.size, 0, none⟩) n n) (W.alloc (.cells (zerI n) TN)) := by
  subst hx
  obtain ⟨i, hi, hz, hs, hb⟩ := info_parts int_info
  rw [run_make (P := Try.prog) W TS TN i _ Try.underlying33 hi hz .i64 .i64 n n (by omega) (by omega) (by rw [hb]; omega) (by omega)]
  simp only [Int.toNat_natCast, hs, made_zerI]
theorem blk_cellI {w : World} {g : Nat} {t : TypeId} {cs : List Nat} (h : Blk w g t (cs.map I64).toArray) {j : Nat} (hj : j < cs.length) : w.cell? ⟨g, j, none⟩ = some (.int .i64 ((cs.getD j 0 : Nat) : Int)) := by
  have h' : w.heap[g]? = some (.cells (cs.map I64).toArray t (0, 0)) := h
  simp [World.cell?, h', List.getD, hj, I64]
theorem blk_setI {w : World} {g : Nat} {t : TypeId} {cs : List Nat} (h : Blk w g t (cs.map I64).toArray) (j v : Nat) : Blk (w.setCell ⟨g, j, none⟩ (I64 v)) g t ((cs.set j v).map I64).toArray := by
  have := h.set_ j (I64 v)
  rw [List.map_set]
  simpa using this
/-- A block G of nm digits, which alone is written. -/
structure ZInv (W0 : World) (G nm : Nat) (wr : World) (cs : List Nat) : Prop where
  held : Held G nm TN W0 wr
  blk : Blk wr G TN (cs.map I64).toArray
  len : cs.length = nm
  dg : Dg BT cs
theorem ZInv.set_ {W0 wr : World} {G nm : Nat} {cs : List Nat} (h : ZInv W0 G nm wr cs) (j v : Nat) (hv : v < BT) : ZInv W0 G nm (wr.setCell ⟨G, j, none⟩ (I64 v)) (cs.set j v) :=
  ⟨h.held.set_ j _, blk_setI h.blk j v, by simpa using h.len, h.dg.set_ j v hv⟩
theorem ZInv.below_ {W0 wr w' : World} {G nm : Nat} {cs : List Nat} (h : ZInv W0 G nm wr cs) (hb : Below wr.heap.size wr w') : ZInv W0 G nm w' cs :=
  ⟨h.held.trans_ hb, h.blk.below hb, h.len, h.dg⟩
theorem val_set_all (B : Nat) (cs : List Nat) (k v d : Nat) (hk : k < cs.length) (hd : cs.getD k 0 = d) : val B (cs.set k v) + B ^ k * d = val B cs + B ^ k * v := by
  have h := val_set_in B cs k cs.length v hk (Nat.le_refl _)
  rw [List.take_of_length_le (by simp), List.take_length, hd] at h
  exact h
theorem getD_past {ys : List Nat} {j : Nat} (h : ys.length ≤ j) : ys.getD j 0 = 0 := by simp [List.getD, List.getElem?_eq_none h]
theorem mul_lt_pow {B i n' : Nat} (hB : 0 < B) {xs ys : List Nat} (hx : Dg B xs) (hy : Dg B ys) (hl : ys.length = n') : val B (xs.take (i + 1)) * val B ys < B ^ (i + 1 + n') := by
  have h1 := val_lt B _ (hx.take (i + 1))
  have h2 : B ^ (xs.take (i + 1)).length ≤ B ^ (i + 1) := Nat.pow_le_pow_right hB (by simp; omega)
  have h3 := val_lt B _ hy
  rw [hl] at h3
  rw [Nat.pow_add]
  exact Nat.mul_lt_mul'' (Nat.lt_of_lt_of_le h1 h2) h3
theorem mul_row {B i dx : Nat} {xs ys : List Nat} (hdx : xs.getD i 0 = dx) : val B (xs.take i) * val B ys + dx * B ^ i * val B ys = val B (xs.take (i + 1)) * val B ys := by
  rw [val_take_succ', hdx, Nat.add_mul, Nat.mul_comm dx]
theorem mul_room {B i n' j cr V dx : Nat} {xs ys : List Nat} (hB : 0 < B) (hdx : xs.getD i 0 = dx) (hx : Dg B xs) (hy : Dg B ys) (hl : ys.length = n') (hj : n' < j)
    (h : V + cr * B ^ (i + j) = val B (xs.take i) * val B ys + dx * B ^ i * val B (ys.take j)) : cr = 0 := by
  rw [show ys.take j = ys from List.take_of_length_le (by omega), mul_row hdx] at h
  have h1 := mul_lt_pow (i := i) hB hx hy hl
  have h2 : B ^ (i + 1 + n') ≤ B ^ (i + j) := Nat.pow_le_pow_right hB (by omega)
  rcases Nat.eq_zero_or_pos cr with h0 | h0
  · exact h0
  · have h3 : 1 * B ^ (i + j) ≤ cr * B ^ (i + j) := Nat.mul_le_mul_right _ h0
    omega
theorem mul_le_dig (x y : Nat) (hx : x < 10000) (hy : y < 10000) : x * y ≤ 99980001 := by
  calc x * y ≤ 9999 * 9999 := Nat.mul_le_mul (by omega) (by omega)
    _ = 99980001 := by decide

set_option maxHeartbeats 6400000 in
set_option maxRecDepth 100000 in
theorem zmul_any (v v' : Value) (x y : Int) (w : World) (h : ZI w v x) (h' : ZI w v' y) (hs : s10 x + s10 y ≤ 800000000000) :
    Calls Try.prog 70 #[v, v'] w (Ret (fun v w' => ZI w' v (x * y)) w) := by
  obtain ⟨A, n, c, rfl, h⟩ := h
  obtain ⟨A', n', c', rfl, h'⟩ := h'
  have hn := h.le
  have hn' := h'.le
  have hc := h.cap
  have hc' := h'.cap
  have hl := h.len
  have hl' := h'.len
  simp only [LZ, List.length_map] at hl hl'
  have hsum : n + n' ≤ 800000000000 := by unfold s10 dl at hs; omega
  obtain ⟨xs, hxs⟩ : ∃ xs, digs BT x.natAbs = xs := ⟨_, rfl⟩
  obtain ⟨ys, hys⟩ : ∃ ys, digs BT y.natAbs = ys := ⟨_, rfl⟩
  have hvx : val BT xs = x.natAbs := by rw [← hxs]; exact val_digs BT two_BT _
  have hvy : val BT ys = y.natAbs := by rw [← hys]; exact val_digs BT two_BT _
  have hdx : Dg BT xs := by rw [← hxs]; exact digs_dg BT two_BT _
  have hdy : Dg BT ys := by rw [← hys]; exact digs_dg BT two_BT _
  unfold LZ at h h'
  rw [hxs] at h hl
  rw [hys] at h' hl'
  have H := Lib.hid h
  have H' := Lib.hid h'
  have HL := Lib.hid hl
  have HL' := Lib.hid hl'
  have HVX := Lib.hid hvx
  have HVY := Lib.hid hvy
  have HDX := Lib.hid hdx
  have HDY := Lib.hid hdy
  clear h h' hl hl' hvx hvy hdx hdy hxs hys hs
  obtain ⟨s, hsx⟩ : ∃ s, ng x = s := ⟨_, rfl⟩
  obtain ⟨s', hsy⟩ : ∃ s, ng y = s := ⟨_, rfl⟩
  have HN : Hid ((s != s') = ng (x * y) ∨ x * y = 0) := by
    show (s != s') = ng (x * y) ∨ x * y = 0
    rw [← hsx, ← hsy]
    unfold ng
    by_cases hx0 : x = 0
    · right; rw [hx0, Int.zero_mul]
    by_cases hy0 : y = 0
    · right; rw [hy0, Int.mul_zero]
    left
    by_cases hx : x < 0 <;> by_cases hy : y < 0
    · have := Int.mul_pos_of_neg_of_neg hx hy
      simp [hx, hy]; omega
    · have := Int.mul_neg_of_neg_of_pos hx (show 0 < y by omega)
      simp [hx, hy, this]
    · have := Int.mul_neg_of_pos_of_neg (show 0 < x by omega) hy
      simp [hx, hy, this]
    · have := Int.mul_pos (show 0 < x by omega) (show 0 < y by omega)
      simp [hx, hy]; omega
  rw [hsx, hsy]
  clear hsx hsy
  have hmk := make_int (n + n' + 1) ((n : Int) + (n' : Int) + 1) (by omega) (by omega)
  go_enter Try.func70, Try.ntmps70
  go_wp2
  refine wp_world (fun W0 => Blk W0 w.heap.size TZ #[.bool s, .slice A n c] ∧ Blk W0 (w.heap.size + 1) TZ #[.bool s', .slice A' n' c'] ∧ Blk W0 (w.heap.size + 1 + 1) TZ #[.bool false, .slice none 0 0] ∧ Blk W0 (w.heap.size + 1 + 1 + 1) TN (zerI (n + n' + 1)) ∧ Below w.heap.size w W0) (by exact ⟨(((Blk.new_ _ _ rfl).alloc _).alloc _).alloc _, ((Blk.new_ _ _ (by simp)).alloc _).alloc _, (Blk.new_ _ _ (by simp)).alloc _, Blk.new_ _ _ (by simp), by go_grown⟩) ?_
  rintro W0 ⟨b0, b1, b2, b3, hbw⟩
  clear hmk
  have k0 := fun w' (hh : Held (w.heap.size + 1 + 1 + 1) (n + n' + 1) TN W0 w') => (b0.held hh (by omega)).cells
  have k1 := fun w' (hh : Held (w.heap.size + 1 + 1 + 1) (n + n' + 1) TN W0 w') => (b1.held hh (by omega)).cells
  simp only [cellsAre, Nat.zero_add, Nat.reduceAdd, and_true] at k0 k1
  have B0 := Lib.hid b0
  have B1 := Lib.hid b1
  have B2 := Lib.hid b2
  have K0 := Lib.hid k0
  have K1 := Lib.hid k1
  have hst : Held (w.heap.size + 1 + 1 + 1) (n + n' + 1) TN W0 W0 := by have := b3.heldS; simpa [zerI] using this
  have I0 : ZInv W0 (w.heap.size + 1 + 1 + 1) (n + n' + 1) W0 (List.replicate (n + n' + 1) 0) := ⟨hst, b3, by simp, Dg.replicate (by unfold BT; omega) _⟩
  have HI0 := Lib.hid I0
  clear b0 b1 b2 b3 k0 k1 hst I0
  go_loopw [6] (fun i wr => ∃ (k : Nat) (cs : List Nat), k ≤ n ∧ i = .int .i64 k ∧ ZInv W0 (w.heap.size + 1 + 1 + 1) (n + n' + 1) wr cs ∧ val BT cs = val BT (xs.take k) * val BT ys) (fun i _ => n - (intOf i).toNat)
  case atStart => exact ⟨0, List.replicate (n + n' + 1) 0, Nat.zero_le _, rfl, HI0.out, by simp [val, val_zeros]⟩
  case round =>
    obtain ⟨i, cs, hi, rfl, hI, hv⟩ := hrel
    obtain ⟨wo, rfl⟩ : ∃ wo : World, wo = wr := ⟨_, rfl⟩
    have HI := Lib.hid hI
    have HV := Lib.hid hv
    clear hI hv
    obtain ⟨e00, e01⟩ := K0.out wo HI.out.held
    obtain ⟨e10, e11⟩ := K1.out wo HI.out.held
    by_cases hin : i < n
    · obtain ⟨b, o, rfl, hcell⟩ := H.out.at_int (by omega)
      have HCX := Lib.hid (hcell i hin)
      clear hcell
      have hd1 := HDX.out.getD (by unfold BT; omega) i
      obtain ⟨dx, hdx⟩ : ∃ d, xs.getD i 0 = d := ⟨_, rfl⟩
      rw [hdx] at HCX hd1
      have HDXI := Lib.hid hdx
      rw [BT_eq] at hd1
      clear hdx
      go_wp2
      clear e00 e01 e10 e11
      go_loopw [7, 8] (fun cy jj wr => ∃ (j cr : Nat) (ds : List Nat), j ≤ n' + 1 ∧ cr < BT ∧ jj = .int .i64 j ∧ cy = .int .i64 cr ∧ ZInv W0 (w.heap.size + 1 + 1 + 1) (n + n' + 1) wr ds ∧ val BT ds + cr * BT ^ (i + j) = val BT (xs.take i) * val BT ys + dx * BT ^ i * val BT (ys.take j)) (fun _ jj _ => n' + 2 - (intOf jj).toNat)
      case atStart => exact ⟨0, 0, cs, Nat.zero_le _, by unfold BT; omega, rfl, rfl, HI.out, by rw [HV.out]; simp [val]⟩
      case round =>
        clear HI HV
        obtain ⟨j, cr, ds, hj, hcr, rfl, rfl, hJ, hvj⟩ := hrel
        obtain ⟨wi, rfl⟩ : ∃ wi : World, wi = wr := ⟨_, rfl⟩
        have HJ := Lib.hid hJ
        have HVJ := Lib.hid hvj
        have HROOM := Lib.hid (show n' < j → cr = 0 from fun hlt => mul_room (by unfold BT; omega) HDXI.out HDX.out HDY.out HL'.out hlt hvj)
        rw [BT_eq] at hcr
        clear hJ hvj
        obtain ⟨f00, f01⟩ := K0.out wi HJ.out.held
        obtain ⟨f10, f11⟩ := K1.out wi HJ.out.held
        have hcx : wi.cell? ⟨b, o + i, none⟩ = some (.int .i64 (dx : Int)) := by
          rw [(HJ.out.held.below hbw (by omega)).cell (p := ⟨b, o + i, none⟩) (World.block_lt_of_cell? w _ HCX.out)]
          exact HCX.out
        by_cases hjn : j < n'
        · obtain ⟨b', o', rfl, hcell'⟩ := H'.out.at_int (by omega)
          have hcy : wi.cell? ⟨b', o' + j, none⟩ = some (.int .i64 ((ys.getD j 0 : Nat) : Int)) := by
            rw [(HJ.out.held.below hbw (by omega)).cell (p := ⟨b', o' + j, none⟩) (World.block_lt_of_cell? w _ (hcell' j hjn))]
            exact hcell' j hjn
          clear hcell'
          have hd2 := HDY.out.getD (by unfold BT; omega) j
          have hd3 := HJ.out.dg.getD (by unfold BT; omega) (i + j)
          have hcg := blk_cellI HJ.out.blk (j := i + j) (by rw [HJ.out.len]; omega)
          have hfr := HJ.out.blk.free (i + j)
          obtain ⟨dy, hdy⟩ : ∃ d, ys.getD j 0 = d := ⟨_, rfl⟩
          obtain ⟨d, hd⟩ : ∃ d, ds.getD (i + j) 0 = d := ⟨_, rfl⟩
          rw [hdy] at hcy hd2
          rw [hd] at hcg hd3
          rw [BT_eq] at hd2 hd3
          have HDYJ := Lib.hid hdy
          have HD := Lib.hid hd
          clear hdy hd
          have hq := mul_le_dig dx dy hd1 hd2
          have hq1 : (dx : Int) * (dy : Int) ≤ 99980001 := by
            have : ((dx * dy : Nat) : Int) ≤ 99980001 := by omega
            simpa using this
          have hq0 : (0 : Int) ≤ (dx : Int) * (dy : Int) := by
            have : (0 : Int) ≤ ((dx * dy : Nat) : Int) := by omega
            simpa using this
          have e0 : (dx : Int) * (dy : Int) = ((dx * dy : Nat) : Int) := by simp
          have E0 := Lib.hid e0
          clear e0 hq
          have q1 : IntKind.i64.wrap ((dx : Int) * (dy : Int)) = (dx : Int) * (dy : Int) := IntWalk.i64_in _ (by omega)
          have q2 : IntKind.i64.wrap ((d : Int) + (cr : Int) + (dx : Int) * (dy : Int)) = (d : Int) + (cr : Int) + (dx : Int) * (dy : Int) := IntWalk.i64_in _ (by omega)
          go_wp2
          go_quiet (fail)
          clear q1 q2
          go_wp2
          go_roundw
          case rel =>
            refine ⟨j + 1, (dx * dy + d + cr) / 10000, ds.set (i + j) ((dx * dy + d + cr) % 10000), by omega, by rw [BT_eq]; have := E0.out; omega, by go_num, i64e (by have := E0.out; omega), ?_, ?_⟩
            · have e : Value.int .i64 (((d : Int) + (cr : Int) + (dx : Int) * (dy : Int)) % 10000) = I64 ((dx * dy + d + cr) % 10000) := i64e (by have := E0.out; omega)
              rw [e]
              exact (HJ.out.below_ (below_drewN (Below.refl _ _) _)).set_ _ _ (by rw [BT_eq]; omega)
            · rw [← Nat.add_assoc]
              exact mul_step BT (i + j) dx dy d cr _ _ _ _ _ i ys j rfl HDYJ.out HVJ.out (val_set_all BT ds (i + j) _ d (by rw [HJ.out.len]; omega) HD.out) (by rw [BT_eq]; have := Nat.div_add_mod (dx * dy + d + cr) 10000; omega)
          case measure => first | (simp [intOf]; done) | (simp [intOf]; omega)
        · by_cases hc0 : 0 < cr
          · have hjj : j = n' := by
              rcases Nat.lt_or_ge n' j with h | h
              · have := HROOM.out h; omega
              · omega
            subst hjj
            have hd3 := HJ.out.dg.getD (by unfold BT; omega) (i + j)
            have hcg := blk_cellI HJ.out.blk (j := i + j) (by rw [HJ.out.len]; omega)
            have hfr := HJ.out.blk.free (i + j)
            obtain ⟨d, hd⟩ : ∃ d, ds.getD (i + j) 0 = d := ⟨_, rfl⟩
            rw [hd] at hcg hd3
            rw [BT_eq] at hd3
            have HD := Lib.hid hd
            clear hd
            go_wp2
            go_roundw
            case rel =>
              refine ⟨j + 1, (d + cr) / 10000, ds.set (i + j) ((d + cr) % 10000), by omega, by rw [BT_eq]; omega, by go_num, i64e (by omega), ?_, ?_⟩
              · have e : Value.int .i64 (((d : Int) + (cr : Int)) % 10000) = I64 ((d + cr) % 10000) := i64e (by omega)
                rw [e]
                exact HJ.out.set_ _ _ (by rw [BT_eq]; omega)
              · rw [← Nat.add_assoc]
                exact mul_step BT (i + j) dx 0 d cr _ _ _ _ _ i ys j rfl (getD_past (by rw [HL'.out]; omega)) HVJ.out (val_set_all BT ds (i + j) _ d (by rw [HJ.out.len]; omega) HD.out) (by rw [BT_eq]; have := Nat.div_add_mod (d + cr) 10000; omega)
            case measure => first | (simp [intOf]; done) | (simp [intOf]; omega)
          · have hc1 : cr = 0 := by omega
            subst hc1
            go_wp2
            go_roundw
            case rel =>
              refine ⟨i + 1, ds, by omega, by go_num, HJ.out, ?_⟩
              have h1 := HVJ.out
              rw [show ys.take j = ys from List.take_of_length_le (by rw [HL'.out]; omega), mul_row HDXI.out] at h1
              simpa using h1
            case measure => first | (simp [intOf]; done) | (simp [intOf]; omega)
    · have : i = n := by omega
      subst this
      have hbo := HI.out.held.below hbw (by omega)
      have b2 := B2.out.held HI.out.held (by omega)
      have hsl := Blk.sl HI.out.blk rfl (by simp [HI.out.len]; omega)
      have hlen : (cs.map I64).length = i + n' + 1 := by simp [HI.out.len]
      rw [hlen] at hsl
      have hval : val BT cs = (x * y).natAbs := by
        have e0 := HV.out
        rw [List.take_of_length_le (by rw [HL.out]; omega), HVX.out, HVY.out] at e0
        rw [e0, Int.natAbs_mul]
      have HSL := Lib.hid hsl
      have HVAL := Lib.hid hval
      have HBO := Lib.hid hbo
      have BB2 := Lib.hid b2
      clear hsl hlen hval hbo b2
      go_wp2_with (go_at_call 104; refine (zlean_any _ _ _ _ cs (x * y) _ HSL.out HI.out.dg HVAL.out HN.out (by omega)).mono ?_; rintro e w2 ⟨v2, rfl, ⟨A2, n2, c2, rfl, h2⟩, hb2⟩; have C2 := Lib.hid (BB2.out.below hb2); have kk := C2.out.cells; have ff := C2.out.free; have H2 := Lib.hid h2; have HB2 := Lib.hid hb2; simp only [cellsAre, Nat.zero_add, Nat.reduceAdd, and_true] at kk; clear h2 hb2 e00 e01 e10 e11)
      (try simp only [Exit.inBlock, Exit.then])
      refine bodyPost_ret (v := .agg #[.bool (ng (x * y)), .slice A2 n2 c2]) (by simp [results, Try.results70, go_sem, kk]) rfl ?_
      have hst2 := Held.set_ (Held.set_ C2.out.heldS 0 (.bool (ng (x * y)))) 1 (.slice A2 n2 c2)
      exact ⟨_, rfl, ⟨A2, n2, c2, rfl, H2.out.held hst2 (by decide)⟩, hst2.below (bt HBO.out HB2.out) (by omega)⟩
end Go.Proofs.Tb
