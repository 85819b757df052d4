/- Contracts of package wide: sums and differences of sizes. -/
import Derived.Test.YtcbffkkcldnegaaWideC
set_option linter.unusedVariables false
set_option linter.unusedSimpArgs false
namespace Go.Proofs.Tb
open Go.RowKit
attribute [local go_sem] cell_set_same

theorem u32_info : (Try.prog.info? 128).map (fun i => (i.zero, i.size, i.bytes)) = some (some (.int .u32 0), 1, 4) := by kernel_rfl
/-- v is a slice in a new block at g. -/
def Nw (g : Nat) (w : World) (v : Value) (xs : List Value) : Prop := ∃ n c, v = .slice (some ⟨g, 0, none⟩) n c ∧ Sl TU w (some ⟨g, 0, none⟩) n c xs
theorem Nw.sl {g : Nat} {w : World} {v : Value} {xs : List Value} (h : Nw g w v xs) : SL TU w v xs := by
  obtain ⟨n, c, hv, h⟩ := h
  exact ⟨_, n, c, hv, h⟩
/-- n zeros. -/
def zer (n : Nat) : Array Value := ((List.replicate n 0).map U32).toArray
theorem made_zer (n : Nat) : madeCells (Value.cells (.int .u32 0)) (n * 1) = zer n := by
  apply Array.ext'
  apply List.ext_getElem?
  intro j
  simp only [madeCells, zer, Nat.mul_one, Array.toList_map, Value.cells]
  by_cases hj : j < n
  · simp [hj, U32, Nat.mod_one]
  · simp [hj]
theorem make_u32 (n : Nat) (x : Int) (hx : x = n) (hn : n ≤ 1099511627776) (W : World) :
    (Instr.makeSlice 85 (.int .i64 x) (.int .i64 x)).run Try.prog W = .ok (.slice (some ⟨W.heap.size, 0, none⟩) n n) (W.alloc (.cells (zer n) 128)) := by
  subst hx
  obtain ⟨i, hi, hz, hs, hb⟩ := info_parts u32_info
  rw [run_make (P := Try.prog) W 85 128 i _ Try.underlying85 hi hz .i64 .i64 n n (by omega) (by omega) (by rw [hb]; omega) (by omega)]
  simp only [Int.toNat_natCast, hs, made_zer]
theorem Blk.sl {w : World} {g : Nat} {t : TypeId} {xs : List Value} {cs : Array Value} (h : Blk w g t cs) (e : cs = xs.toArray) (hl : xs.length ≤ 9223372036854775807) : Sl t w (some ⟨g, 0, none⟩) xs.length xs.length xs := by
  subst e
  refine ⟨rfl, Nat.le_refl _, hl, fun _ => ⟨g, 0, rfl, ⟨_, _, h⟩, fun j hj => ?_⟩⟩
  have h' : w.heap[g]? = some (.cells xs.toArray t (0, 0)) := h
  simp [World.cell?, h', List.getD, hj]
theorem val_take_succ' (B : Nat) (xs : List Nat) (k : Nat) : val B (xs.take (k + 1)) = val B (xs.take k) + B ^ k * xs.getD k 0 := by
  by_cases h : k < xs.length
  · exact val_take_succ B xs k h
  · rw [List.take_of_length_le (by omega), List.take_of_length_le (by omega)]
    simp [List.getD, Nat.le_of_not_lt h]
theorem val_set_take (B : Nat) (xs : List Nat) (k v : Nat) (h : k < xs.length) : val B ((xs.set k v).take (k + 1)) = val B (xs.take k) + B ^ k * v := by
  rw [val_take_succ B _ k (by simpa using h)]
  simp [List.take_set_of_le, List.getD, h]
theorem blk_cell {w : World} {g : Nat} {t : TypeId} {cs : List Nat} (h : Blk w g t (cs.map U32).toArray) {j : Nat} (hj : j < cs.length) : w.cell? ⟨g, j, none⟩ = some (.int .u32 ((cs.getD j 0 : Nat) : Int)) := by
  have h' : w.heap[g]? = some (.cells (cs.map U32).toArray t (0, 0)) := h
  simp [World.cell?, h', List.getD, hj, U32]
theorem blk_set {w : World} {g : Nat} {t : TypeId} {cs : List Nat} (h : Blk w g t (cs.map U32).toArray) (j v : Nat) : Blk (w.setCell ⟨g, j, none⟩ (U32 v)) g t ((cs.set j v).map U32).toArray := by
  have := h.set_ j (U32 v)
  rw [List.map_set]
  simpa using this

theorem plus_step (B k cy dx dy vx vy vc cc vc' : Nat) (h : vc + B ^ k * cy = vx + vy) (hs : cc * B + vc' = dx + dy + cy) : vc + B ^ k * vc' + B ^ (k + 1) * cc = vx + B ^ k * dx + (vy + B ^ k * dy) := by
  have h1 : B ^ k * (cc * B + vc') = B ^ k * (dx + dy + cy) := by rw [hs]
  rw [Nat.mul_add, Nat.mul_add, Nat.mul_add] at h1
  rw [Nat.pow_succ]
  have h2 : B ^ k * B * cc = B ^ k * (cc * B) := by rw [Nat.mul_assoc, Nat.mul_comm B cc]
  omega
theorem div_le1 (B x y c : Nat) (hx : x < B) (hy : y < B) (hc : c ≤ 1) : (x + y + c) / B ≤ 1 := by
  have : (x + y + c) / B < 2 := Nat.div_lt_of_lt_mul (by omega)
  omega

set_option maxHeartbeats 1600000 in
theorem plus_core (sw : Bool) (X Y : Option Addr) (nx cx ny cy : Nat) (xs ys : List Nat) (w : World) (h : Sl TU w X nx cx (xs.map U32)) (h' : Sl TU w Y ny cy (ys.map U32)) (hdx : Dg B32 xs) (hdy : Dg B32 ys)
    (hle : ny ≤ nx) (hsw : sw = true → ny < nx) (hbig : nx ≤ 1000000000000) :
    Calls Try.prog 124 (if sw then #[.slice Y ny cy, .slice X nx cx] else #[.slice X nx cx, .slice Y ny cy]) w (Ret (fun v w' => Nw w.heap.size w' v (L (val B32 xs + val B32 ys))) w) := by
  have hc := h.cap
  have hc' := h'.cap
  have hn := h.le
  have hn' := h'.le
  have hl := h.len
  have hl' := h'.len
  rw [List.length_map] at hl hl'
  have HL := Lib.hid hl
  have HL' := Lib.hid hl'
  have HH := Lib.hid h
  have HH' := Lib.hid h'
  have HX := Lib.hid hdx
  have HY := Lib.hid hdy
  clear h hdx hl h' hdy hl'
  have hmk := make_u32 (nx + 1) ((nx : Int) + 1) (by omega) (by omega)
  cases sw
  · have hnl : ¬ nx < ny := by omega
    clear hsw
    simp only [Bool.false_eq_true, if_false]
    go_enter Try.func124, Try.ntmps124
    go_wp2
    clear hmk
    go_loopw [6, 22] (fun cy i wr => ∃ (k c : Nat) (cs : List Nat), k ≤ nx ∧ c ≤ 1 ∧ i = .int .i64 k ∧ cy = .int .u32 c ∧ cs.length = nx + 1 ∧ Dg B32 cs ∧ val B32 (cs.take k) + B32 ^ k * c = val B32 (xs.take k) + val B32 (ys.take k) ∧ Blk wr w.heap.size 128 (cs.map U32).toArray ∧ Below w.heap.size w wr) (fun _ i _ => nx - (intOf i).toNat)
    case atStart => exact ⟨0, 0, List.replicate (nx + 1) 0, Nat.zero_le _, by omega, rfl, rfl, by simp, Dg.replicate (by unfold B32; omega) _, by simp [val], Blk.new_ _ _ rfl, (Below.refl _ _).alloc (Nat.le_refl _) _⟩
    case round =>
      obtain ⟨k, cr, cs, hk, hcr, rfl, rfl, hcl, hcd, hv, hblk, hbw⟩ := hrel
      have HV := Lib.hid hv
      have HCL := Lib.hid hcl
      have HCD := Lib.hid hcd
      have HB := Lib.hid hblk
      clear hv hcl hcd hblk
      by_cases hkn : k < nx
      · obtain ⟨b, o, rfl, hcell⟩ := HH.out.at_u32 (by omega)
        have hcx : wr.cell? ⟨b, o + k, none⟩ = some (.int .u32 ((xs.getD k 0 : Nat) : Int)) := by
          rw [hbw.cell (p := ⟨b, o + k, none⟩) (World.block_lt_of_cell? w _ (hcell k hkn))]
          exact hcell k hkn
        have hcg := blk_cell HB.out (j := k) (by rw [HCL.out]; omega)
        have hfr := HB.out.free k
        clear hcell
        have hd1 := HX.out.getD (by unfold B32; omega) k
        have hd2 := HY.out.getD (by unfold B32; omega) k
        obtain ⟨dx, hdx⟩ : ∃ d, xs.getD k 0 = d := ⟨_, rfl⟩
        obtain ⟨dy, hdy⟩ : ∃ d, ys.getD k 0 = d := ⟨_, rfl⟩
        rw [hdx] at hcx hd1
        rw [hdy] at hd2
        have HDX := Lib.hid hdx
        have HDY := Lib.hid hdy
        clear hdx hdy
        have hd1' := Lib.hid hd1
        have hd2' := Lib.hid hd2
        clear hd1 hd2
        by_cases hky : k < ny
        · obtain ⟨b', o', rfl, hcell'⟩ := HH'.out.at_u32 (by omega)
          have hcy : wr.cell? ⟨b', o' + k, none⟩ = some (.int .u32 ((ys.getD k 0 : Nat) : Int)) := by
            rw [hbw.cell (p := ⟨b', o' + k, none⟩) (World.block_lt_of_cell? w _ (hcell' k hky))]
            exact hcell' k hky
          rw [HDY.out] at hcy
          clear hcell'
          go_wp2_with (go_at_call 132; refine (add32_res dx dy cr _ hd1'.out hd2'.out hcr).mono ?_; rintro e w1 ⟨s, t, rfl, hst, rfl⟩)
          go_roundw
          case rel => exact ⟨k + 1, t, cs.set k s, by omega, hst.2.2, by go_num, rfl, by simp [HCL.out], HCD.out.set_ _ _ hst.2.1, by rw [val_set_take B32 _ _ _ (by rw [HCL.out]; omega), val_take_succ' B32 xs, val_take_succ' B32 ys, HDX.out, HDY.out]; exact plus_step B32 k cr dx dy _ _ _ _ _ HV.out hst.1, blk_set HB.out k _, hbw.setCell (Nat.le_refl _) _⟩
          case measure => simp [intOf]; omega
        · have hy0 : dy = 0 := by
            rw [← HDY.out, List.getD_eq_getElem?_getD, List.getElem?_eq_none (by rw [HL'.out]; omega)]; rfl
          have HY0 := Lib.hid hy0
          clear hy0
          go_wp2_with (go_at_call 132; refine (add32_res dx 0 cr _ hd1'.out (by unfold B32; omega) hcr).mono ?_; rintro e w1 ⟨s, t, rfl, hst, rfl⟩)
          rw [← HY0.out] at hst
          go_roundw
          case rel => exact ⟨k + 1, t, cs.set k s, by omega, hst.2.2, by go_num, rfl, by simp [HCL.out], HCD.out.set_ _ _ hst.2.1, by rw [val_set_take B32 _ _ _ (by rw [HCL.out]; omega), val_take_succ' B32 xs, val_take_succ' B32 ys, HDX.out, HDY.out]; exact plus_step B32 k cr dx dy _ _ _ _ _ HV.out hst.1, blk_set HB.out k _, hbw.setCell (Nat.le_refl _) _⟩
          case measure => simp [intOf]; omega
      · have : k = nx := by omega
        subst this
        have hcg := blk_cell HB.out (j := k) (by rw [HCL.out]; omega)
        have hfr := HB.out.free k
        have hset := blk_set HB.out k cr
        have HSET := Lib.hid hset
        have hsl := Blk.sl hset rfl (by simp [HCL.out]; omega)
        have hlen : ((cs.set k cr).map U32).length = k + 1 := by simp [HCL.out]
        rw [hlen] at hsl
        have HSL := Lib.hid hsl
        have HLEN := Lib.hid hlen
        clear hsl hset hlen
        have hbw2 : Below w.heap.size w (wr.setCell ⟨w.heap.size, k, none⟩ (U32 cr)) := hbw.setCell (Nat.le_refl _) _
        have hdset : Dg B32 (cs.set k cr) := HCD.out.set_ k cr (by unfold B32; omega)
        have hval : val B32 (cs.set k cr) = val B32 xs + val B32 ys := by
          have e1 := val_set_take B32 cs k cr (by rw [HCL.out]; omega)
          rw [List.take_of_length_le (by simp [HCL.out])] at e1
          rw [e1, HV.out, ← HL.out, List.take_length, HL.out, List.take_of_length_le (by rw [HL'.out]; omega)]
        have HVAL := Lib.hid hval
        have HDS := Lib.hid hdset
        have HBW2 := Lib.hid hbw2
        clear hval hdset hbw2
        go_wp2_with (go_at_call 99; refine (trim_fr _ _ _ _ _ HSL.out HDS.out).mono ?_; rintro e w1 ⟨⟨v1, rfl, h1⟩, rfl⟩)
        go_returns
        exact ⟨_, rfl, ⟨_, _, rfl, by rw [← HVAL.out]; exact h1⟩, HBW2.out⟩
  · have hlt := hsw rfl
    clear hsw
    simp only [if_true]
    go_enter Try.func124, Try.ntmps124
    go_wp2
    clear hmk
    go_loopw [6, 22] (fun cy i wr => ∃ (k c : Nat) (cs : List Nat), k ≤ nx ∧ c ≤ 1 ∧ i = .int .i64 k ∧ cy = .int .u32 c ∧ cs.length = nx + 1 ∧ Dg B32 cs ∧ val B32 (cs.take k) + B32 ^ k * c = val B32 (xs.take k) + val B32 (ys.take k) ∧ Blk wr w.heap.size 128 (cs.map U32).toArray ∧ Below w.heap.size w wr) (fun _ i _ => nx - (intOf i).toNat)
    case atStart => exact ⟨0, 0, List.replicate (nx + 1) 0, Nat.zero_le _, by omega, rfl, rfl, by simp, Dg.replicate (by unfold B32; omega) _, by simp [val], Blk.new_ _ _ rfl, (Below.refl _ _).alloc (Nat.le_refl _) _⟩
    case round =>
      obtain ⟨k, cr, cs, hk, hcr, rfl, rfl, hcl, hcd, hv, hblk, hbw⟩ := hrel
      have HV := Lib.hid hv
      have HCL := Lib.hid hcl
      have HCD := Lib.hid hcd
      have HB := Lib.hid hblk
      clear hv hcl hcd hblk
      by_cases hkn : k < nx
      · obtain ⟨b, o, rfl, hcell⟩ := HH.out.at_u32 (by omega)
        have hcx : wr.cell? ⟨b, o + k, none⟩ = some (.int .u32 ((xs.getD k 0 : Nat) : Int)) := by
          rw [hbw.cell (p := ⟨b, o + k, none⟩) (World.block_lt_of_cell? w _ (hcell k hkn))]
          exact hcell k hkn
        have hcg := blk_cell HB.out (j := k) (by rw [HCL.out]; omega)
        have hfr := HB.out.free k
        clear hcell
        have hd1 := HX.out.getD (by unfold B32; omega) k
        have hd2 := HY.out.getD (by unfold B32; omega) k
        obtain ⟨dx, hdx⟩ : ∃ d, xs.getD k 0 = d := ⟨_, rfl⟩
        obtain ⟨dy, hdy⟩ : ∃ d, ys.getD k 0 = d := ⟨_, rfl⟩
        rw [hdx] at hcx hd1
        rw [hdy] at hd2
        have HDX := Lib.hid hdx
        have HDY := Lib.hid hdy
        clear hdx hdy
        have hd1' := Lib.hid hd1
        have hd2' := Lib.hid hd2
        clear hd1 hd2
        by_cases hky : k < ny
        · obtain ⟨b', o', rfl, hcell'⟩ := HH'.out.at_u32 (by omega)
          have hcy : wr.cell? ⟨b', o' + k, none⟩ = some (.int .u32 ((ys.getD k 0 : Nat) : Int)) := by
            rw [hbw.cell (p := ⟨b', o' + k, none⟩) (World.block_lt_of_cell? w _ (hcell' k hky))]
            exact hcell' k hky
          rw [HDY.out] at hcy
          clear hcell'
          go_wp2_with (go_at_call 132; refine (add32_res dx dy cr _ hd1'.out hd2'.out hcr).mono ?_; rintro e w1 ⟨s, t, rfl, hst, rfl⟩)
          go_roundw
          case rel => exact ⟨k + 1, t, cs.set k s, by omega, hst.2.2, by go_num, rfl, by simp [HCL.out], HCD.out.set_ _ _ hst.2.1, by rw [val_set_take B32 _ _ _ (by rw [HCL.out]; omega), val_take_succ' B32 xs, val_take_succ' B32 ys, HDX.out, HDY.out]; exact plus_step B32 k cr dx dy _ _ _ _ _ HV.out hst.1, blk_set HB.out k _, hbw.setCell (Nat.le_refl _) _⟩
          case measure => simp [intOf]; omega
        · have hy0 : dy = 0 := by
            rw [← HDY.out, List.getD_eq_getElem?_getD, List.getElem?_eq_none (by rw [HL'.out]; omega)]; rfl
          have HY0 := Lib.hid hy0
          clear hy0
          go_wp2_with (go_at_call 132; refine (add32_res dx 0 cr _ hd1'.out (by unfold B32; omega) hcr).mono ?_; rintro e w1 ⟨s, t, rfl, hst, rfl⟩)
          rw [← HY0.out] at hst
          go_roundw
          case rel => exact ⟨k + 1, t, cs.set k s, by omega, hst.2.2, by go_num, rfl, by simp [HCL.out], HCD.out.set_ _ _ hst.2.1, by rw [val_set_take B32 _ _ _ (by rw [HCL.out]; omega), val_take_succ' B32 xs, val_take_succ' B32 ys, HDX.out, HDY.out]; exact plus_step B32 k cr dx dy _ _ _ _ _ HV.out hst.1, blk_set HB.out k _, hbw.setCell (Nat.le_refl _) _⟩
          case measure => simp [intOf]; omega
      · have : k = nx := by omega
        subst this
        have hcg := blk_cell HB.out (j := k) (by rw [HCL.out]; omega)
        have hfr := HB.out.free k
        have hset := blk_set HB.out k cr
        have HSET := Lib.hid hset
        have hsl := Blk.sl hset rfl (by simp [HCL.out]; omega)
        have hlen : ((cs.set k cr).map U32).length = k + 1 := by simp [HCL.out]
        rw [hlen] at hsl
        have HSL := Lib.hid hsl
        have HLEN := Lib.hid hlen
        clear hsl hset hlen
        have hbw2 : Below w.heap.size w (wr.setCell ⟨w.heap.size, k, none⟩ (U32 cr)) := hbw.setCell (Nat.le_refl _) _
        have hdset : Dg B32 (cs.set k cr) := HCD.out.set_ k cr (by unfold B32; omega)
        have hval : val B32 (cs.set k cr) = val B32 xs + val B32 ys := by
          have e1 := val_set_take B32 cs k cr (by rw [HCL.out]; omega)
          rw [List.take_of_length_le (by simp [HCL.out])] at e1
          rw [e1, HV.out, ← HL.out, List.take_length, HL.out, List.take_of_length_le (by rw [HL'.out]; omega)]
        have HVAL := Lib.hid hval
        have HDS := Lib.hid hdset
        have HBW2 := Lib.hid hbw2
        clear hval hdset hbw2
        go_wp2_with (go_at_call 99; refine (trim_fr _ _ _ _ _ HSL.out HDS.out).mono ?_; rintro e w1 ⟨⟨v1, rfl, h1⟩, rfl⟩)
        go_returns
        exact ⟨_, rfl, ⟨_, _, rfl, by rw [← HVAL.out]; exact h1⟩, HBW2.out⟩
theorem plus_fr (A A' : Option Addr) (n c n' c' : Nat) (m m' : Nat) (w : World) (h : Sl TU w A n c (L m)) (h' : Sl TU w A' n' c' (L m')) (hs : dl B32 m ≤ 1000000000000) (hs' : dl B32 m' ≤ 1000000000000) :
    Calls Try.prog 124 #[.slice A n c, .slice A' n' c'] w (Ret (fun v w' => Nw w.heap.size w' v (L (m + m'))) w) := by
  have hl := h.len
  have hl' := h'.len
  simp only [L, List.length_map] at hl hl'
  unfold dl at hs hs'
  have e1 := val_digs B32 two_B32 m
  have e2 := val_digs B32 two_B32 m'
  by_cases hle : n' ≤ n
  · have := plus_core false A A' n c n' c' (digs B32 m) (digs B32 m') w h h' (digs_dg B32 two_B32 m) (digs_dg B32 two_B32 m') hle (fun h => by cases h) (by omega)
    rw [e1, e2] at this
    exact this
  · have := plus_core true A' A n' c' n c (digs B32 m') (digs B32 m) w h' h (digs_dg B32 two_B32 m') (digs_dg B32 two_B32 m) (by omega) (fun _ => by omega) (by omega)
    rw [e1, e2, Nat.add_comm] at this
    exact this

theorem minus_step (B k br dx dy vx vy vc : Nat) (hdx : dx < B) (hdy : dy < B) (hbr : br ≤ 1) (h : vc + vy = vx + B ^ k * br) :
    vc + B ^ k * ((dx + B - (dy + br)) % B) + (vy + B ^ k * dy) = vx + B ^ k * dx + B ^ (k + 1) * bor dx dy br := by
  have hs : (dx + B - (dy + br)) % B + (dy + br) = dx + B * bor dx dy br := by
    unfold bor
    by_cases h1 : dx < dy + br
    · rw [if_pos h1, Nat.mod_eq_of_lt (by omega)]; omega
    · rw [if_neg h1]
      have : dx + B - (dy + br) = (dx - (dy + br)) + B := by omega
      rw [this, Nat.add_mod_right, Nat.mod_eq_of_lt (by omega)]; omega
  have h1 : B ^ k * ((dx + B - (dy + br)) % B + (dy + br)) = B ^ k * (dx + B * bor dx dy br) := by rw [hs]
  rw [Nat.mul_add, Nat.mul_add, Nat.mul_add, ← Nat.mul_assoc] at h1
  rw [Nat.pow_succ]
  omega

set_option maxHeartbeats 1600000 in
theorem minus_core (X Y : Option Addr) (nx cx ny cy : Nat) (xs ys : List Nat) (w : World) (h : Sl TU w X nx cx (xs.map U32)) (h' : Sl TU w Y ny cy (ys.map U32)) (hdx : Dg B32 xs) (hdy : Dg B32 ys)
    (hle : ny ≤ nx) (hv : val B32 ys ≤ val B32 xs) (hbig : nx ≤ 1000000000000) :
    Calls Try.prog 126 #[.slice X nx cx, .slice Y ny cy] w (Ret (fun v w' => Nw w.heap.size w' v (L (val B32 xs - val B32 ys))) w) := by
  have hc := h.cap
  have hc' := h'.cap
  have hn := h.le
  have hn' := h'.le
  have hl := h.len
  have hl' := h'.len
  rw [List.length_map] at hl hl'
  have HL := Lib.hid hl
  have HL' := Lib.hid hl'
  have HH := Lib.hid h
  have HH' := Lib.hid h'
  have HX := Lib.hid hdx
  have HY := Lib.hid hdy
  have HLE := Lib.hid hv
  clear h hdx hl h' hdy hl' hv
  have hmk := make_u32 nx (nx : Int) rfl (by omega)
  go_enter Try.func126, Try.ntmps126
  go_wp2
  clear hmk
  go_loopw [6, 14] (fun cy i wr => ∃ (k c : Nat) (cs : List Nat), k ≤ nx ∧ c ≤ 1 ∧ i = .int .i64 k ∧ cy = .int .u32 c ∧ cs.length = nx ∧ Dg B32 cs ∧ val B32 (cs.take k) + val B32 (ys.take k) = val B32 (xs.take k) + B32 ^ k * c ∧ Blk wr w.heap.size 128 (cs.map U32).toArray ∧ Below w.heap.size w wr) (fun _ i _ => nx - (intOf i).toNat)
  case atStart => exact ⟨0, 0, List.replicate nx 0, Nat.zero_le _, by omega, rfl, rfl, by simp, Dg.replicate (by unfold B32; omega) _, by simp [val], Blk.new_ _ _ rfl, (Below.refl _ _).alloc (Nat.le_refl _) _⟩
  case round =>
    obtain ⟨k, cr, cs, hk, hcr, rfl, rfl, hcl, hcd, hv, hblk, hbw⟩ := hrel
    have HV := Lib.hid hv
    have HCL := Lib.hid hcl
    have HCD := Lib.hid hcd
    have HB := Lib.hid hblk
    clear hv hcl hcd hblk
    by_cases hkn : k < nx
    · obtain ⟨b, o, rfl, hcell⟩ := HH.out.at_u32 (by omega)
      have hcx : wr.cell? ⟨b, o + k, none⟩ = some (.int .u32 ((xs.getD k 0 : Nat) : Int)) := by
        rw [hbw.cell (p := ⟨b, o + k, none⟩) (World.block_lt_of_cell? w _ (hcell k hkn))]
        exact hcell k hkn
      have hcg := blk_cell HB.out (j := k) (by rw [HCL.out]; omega)
      have hfr := HB.out.free k
      clear hcell
      have hd1 := HX.out.getD (by unfold B32; omega) k
      have hd2 := HY.out.getD (by unfold B32; omega) k
      obtain ⟨dx, hdx⟩ : ∃ d, xs.getD k 0 = d := ⟨_, rfl⟩
      obtain ⟨dy, hdy⟩ : ∃ d, ys.getD k 0 = d := ⟨_, rfl⟩
      rw [hdx] at hcx hd1
      rw [hdy] at hd2
      have HDX := Lib.hid hdx
      have HDY := Lib.hid hdy
      clear hdx hdy
      have HS := Lib.hid (minus_step B32 k cr dx dy _ _ _ hd1 hd2 hcr HV.out)
      have hd1' := Lib.hid hd1
      have hd2' := Lib.hid hd2
      clear hd1 hd2
      by_cases hky : k < ny
      · obtain ⟨b', o', rfl, hcell'⟩ := HH'.out.at_u32 (by omega)
        have hcy : wr.cell? ⟨b', o' + k, none⟩ = some (.int .u32 ((ys.getD k 0 : Nat) : Int)) := by
          rw [hbw.cell (p := ⟨b', o' + k, none⟩) (World.block_lt_of_cell? w _ (hcell' k hky))]
          exact hcell' k hky
        rw [HDY.out] at hcy
        clear hcell'
        go_wp2_with (go_at_call 133; refine (sub32_res dx dy cr _ hd1'.out hd2'.out hcr).mono ?_; rintro e w1 ⟨s, t, rfl, hst, rfl⟩)
        go_roundw
        case rel => exact ⟨k + 1, t, cs.set k s, by omega, by rw [hst.2]; exact bor_le _ _ _, by go_num, rfl, by simp [HCL.out], HCD.out.set_ _ _ (by rw [hst.1]; exact Nat.mod_lt _ (by unfold B32; omega)), by rw [val_set_take B32 _ _ _ (by rw [HCL.out]; omega), val_take_succ' B32 xs, val_take_succ' B32 ys, HDX.out, HDY.out, hst.1, hst.2]; exact HS.out, blk_set HB.out k _, hbw.setCell (Nat.le_refl _) _⟩
        case measure => simp [intOf]; omega
      · have hy0 : dy = 0 := by
          rw [← HDY.out, List.getD_eq_getElem?_getD, List.getElem?_eq_none (by rw [HL'.out]; omega)]; rfl
        have HY0 := Lib.hid hy0
        clear hy0
        go_wp2_with (go_at_call 133; refine (sub32_res dx 0 cr _ hd1'.out (by unfold B32; omega) hcr).mono ?_; rintro e w1 ⟨s, t, rfl, hst, rfl⟩)
        rw [← HY0.out] at hst
        go_roundw
        case rel => exact ⟨k + 1, t, cs.set k s, by omega, by rw [hst.2]; exact bor_le _ _ _, by go_num, rfl, by simp [HCL.out], HCD.out.set_ _ _ (by rw [hst.1]; exact Nat.mod_lt _ (by unfold B32; omega)), by rw [val_set_take B32 _ _ _ (by rw [HCL.out]; omega), val_take_succ' B32 xs, val_take_succ' B32 ys, HDX.out, HDY.out, hst.1, hst.2]; exact HS.out, blk_set HB.out k _, hbw.setCell (Nat.le_refl _) _⟩
        case measure => simp [intOf]; omega
    · have : k = nx := by omega
      subst this
      have hsl := Blk.sl HB.out rfl (by simp [HCL.out]; omega)
      have hlen : (cs.map U32).length = k := by simp [HCL.out]
      rw [hlen] at hsl
      have HSL := Lib.hid hsl
      clear hsl hlen
      have hval : val B32 cs = val B32 xs - val B32 ys := by
        have e0 := HV.out
        have t1 : cs.take k = cs := List.take_of_length_le (by have := HCL.out; omega)
        have t2 : xs.take k = xs := List.take_of_length_le (by have := HL.out; omega)
        have t3 : ys.take k = ys := List.take_of_length_le (by have := HL'.out; omega)
        rw [t1, t2, t3] at e0
        have h1 := val_lt B32 cs HCD.out
        rw [HCL.out] at h1
        have h2 := HLE.out
        rcases Nat.eq_zero_or_pos cr with h3 | h3
        · subst h3; omega
        · have : cr = 1 := by omega
          subst this; omega
      have HVAL := Lib.hid hval
      clear hval
      go_wp2_with (go_at_call 99; refine (trim_fr _ _ _ _ _ HSL.out HCD.out).mono ?_; rintro e w1 ⟨⟨v1, rfl, h1⟩, rfl⟩)
      go_returns
      exact ⟨_, rfl, ⟨_, _, rfl, by rw [← HVAL.out]; exact h1⟩, hbw⟩
theorem minus_fr (A A' : Option Addr) (n c n' c' : Nat) (m m' : Nat) (w : World) (h : Sl TU w A n c (L m)) (h' : Sl TU w A' n' c' (L m')) (hle : m' ≤ m) (hs : dl B32 m ≤ 1000000000000) :
    Calls Try.prog 126 #[.slice A n c, .slice A' n' c'] w (Ret (fun v w' => Nw w.heap.size w' v (L (m - m'))) w) := by
  have hl := h.len
  have hl' := h'.len
  simp only [L, List.length_map] at hl hl'
  have e1 := val_digs B32 two_B32 m
  have e2 := val_digs B32 two_B32 m'
  have e3 := dl_mono B32 two_B32 m' m hle
  unfold dl at hs e3
  have := minus_core A A' n c n' c' (digs B32 m) (digs B32 m') w h h' (digs_dg B32 two_B32 m) (digs_dg B32 two_B32 m') (by omega) (by rw [e1, e2]; exact hle) (by omega)
  rw [e1, e2] at this
  exact this
theorem plus_any (A A' : Option Addr) (n c n' c' : Nat) (m m' : Nat) (w : World) (h : Sl TU w A n c (L m)) (h' : Sl TU w A' n' c' (L m')) (hs : dl B32 m ≤ 1000000000000) (hs' : dl B32 m' ≤ 1000000000000) :
    Calls Try.prog 124 #[.slice A n c, .slice A' n' c'] w (Ret (fun v w' => SL TU w' v (L (m + m'))) w) :=
  (plus_fr A A' n c n' c' m m' w h h' hs hs').mono fun _ _ h => h.imp fun _ _ h => h.sl
theorem minus_any (A A' : Option Addr) (n c n' c' : Nat) (m m' : Nat) (w : World) (h : Sl TU w A n c (L m)) (h' : Sl TU w A' n' c' (L m')) (hle : m' ≤ m) (hs : dl B32 m ≤ 1000000000000) :
    Calls Try.prog 126 #[.slice A n c, .slice A' n' c'] w (Ret (fun v w' => SL TU w' v (L (m - m'))) w) :=
  (minus_fr A A' n c n' c' m m' w h h' hle hs).mono fun _ _ h => h.imp fun _ _ h => h.sl
end Go.Proofs.Tb
