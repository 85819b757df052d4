/- Contracts of package rate: comparing two bends; a line in lowest terms. -/
import Derived.Test.YtcbffkkcldnegaaRateB
set_option linter.unusedVariables false
set_option linter.unusedSimpArgs false
namespace Go.Proofs.Tb
open Go.RowKit
attribute [local go_sem] cell_set_same

set_option maxHeartbeats 800000 in
theorem or2_any (b o c : Nat) (x y : Int) (w : World) (h1 : w.cell? ⟨b, o, none⟩ = some (.int .i64 x)) (h2 : w.cell? ⟨b, o + 1, none⟩ = some (.int .i64 y)) :
    Calls Try.prog 122 #[.slice (some ⟨b, o, none⟩) 2 c] w fun e w' => e = .returned (.int .i64 (if x = 0 then y else x)) ∧ w = w' := by
  by_cases hx : x = 0
  · subst hx
    rw [if_pos rfl]
    by_cases hy : y = 0
    · subst hy
      go_enter Try.func122, Try.ntmps122
      go_wp2
      go_rounds 3
      go_returns
      exact ⟨rfl, rfl⟩
    · have hy1 : (y != 0) = true := by rw [bne_iff_ne]; exact hy
      have HY := Lib.hid hy
      clear hy
      go_enter Try.func122, Try.ntmps122
      go_wp2
      go_rounds 3
      go_returns
      exact ⟨rfl, rfl⟩
  · have hx1 : (x != 0) = true := by rw [bne_iff_ne]; exact hx
    rw [if_neg hx]
    clear hx
    go_enter Try.func122, Try.ntmps122
    go_wp2
    go_rounds 3
    go_returns
    exact ⟨rfl, rfl⟩

set_option maxHeartbeats 1600000 in
theorem rcompare_any (xo xr yo yr : Int) (w : World) (h1 : -8000000000000 ≤ xo ∧ xo ≤ 8000000000000) (h2 : 0 ≤ xr ∧ xr ≤ 2000000) (h3 : -8000000000000 ≤ yo ∧ yo ≤ 8000000000000) (h4 : 0 ≤ yr ∧ yr ≤ 2000000) :
    Calls Try.prog 110 #[.agg #[.int .i64 xo, .int .i64 xr], .agg #[.int .i64 yo, .int .i64 yr]] w (Ret (fun v _ => v = .int .i64 (cmpI ((xo.natAbs * yr.natAbs : Nat) : Int) ((yo.natAbs * xr.natAbs : Nat) : Int))) w) := by
  obtain ⟨xr, rfl⟩ := Int.eq_ofNat_of_zero_le h2.1
  obtain ⟨yr, rfl⟩ := Int.eq_ofNat_of_zero_le h4.1
  simp only [Int.natAbs_natCast]
  obtain ⟨a, ha⟩ : ∃ a, xo.natAbs = a := ⟨_, rfl⟩
  obtain ⟨d, hd⟩ : ∃ d, yo.natAbs = d := ⟨_, rfl⟩
  rw [ha, hd]
  have hxr : xr < 2097152 := by omega
  have hyr : yr < 2097152 := by omega
  have hal : a < 8796093022208 := by omega
  have hdl : d < 8796093022208 := by omega
  have hsx : ∀ W : World, Calls Try.prog 97 #[.int .i64 xo] W fun e w' => e = .returned (.int .i64 (a : Int)) ∧ w' = W := fun W => by
    have := rsize_any xo W (by omega) (by omega)
    rwa [show szI xo = (a : Int) by unfold szI; split <;> omega] at this
  have hsy : ∀ W : World, Calls Try.prog 97 #[.int .i64 yo] W fun e w' => e = .returned (.int .i64 (d : Int)) ∧ w' = W := fun W => by
    have := rsize_any yo W (by omega) (by omega)
    rwa [show szI yo = (d : Int) by unfold szI; split <;> omega] at this
  have hm1 : ∀ W : World, Calls Try.prog 121 #[.int .u64 (a : Int), .int .u64 (yr : Int)] W fun e w' => e = .returned (.tuple #[.int .u64 0, .int .u64 ((a * yr : Nat) : Int)]) ∧ w' = W := fun W => (mul64_small a yr W hal hyr).mono fun _ _ ⟨x, y⟩ => ⟨x, y.symm⟩
  have hm2 : ∀ W : World, Calls Try.prog 121 #[.int .u64 (d : Int), .int .u64 (xr : Int)] W fun e w' => e = .returned (.tuple #[.int .u64 0, .int .u64 ((d * xr : Nat) : Int)]) ∧ w' = W := fun W => (mul64_small d xr W hdl hxr).mono fun _ _ ⟨x, y⟩ => ⟨x, y.symm⟩
  obtain ⟨P, hP⟩ : ∃ k, a * yr = k := ⟨_, rfl⟩
  obtain ⟨R, hR⟩ : ∃ k, d * xr = k := ⟨_, rfl⟩
  rw [hP] at hm1 ⊢
  rw [hR] at hm2 ⊢
  have q1 : IntKind.u64.wrap (a : Int) = (a : Int) := by rw [IntKind.wrap_u64]; omega
  have q2 : IntKind.u64.wrap (d : Int) = (d : Int) := by rw [IntKind.wrap_u64]; omega
  have q3 : IntKind.u64.wrap (xr : Int) = (xr : Int) := by rw [IntKind.wrap_u64]; omega
  have q4 : IntKind.u64.wrap (yr : Int) = (yr : Int) := by rw [IntKind.wrap_u64]; omega
  have HSX := Lib.hid hsx
  have HSY := Lib.hid hsy
  have HM1 := Lib.hid hm1
  have HM2 := Lib.hid hm2
  clear hsx hsy hm1 hm2 hP hR ha hd h1 h2 h3 h4 hxr hyr hal hdl
  go_enter Try.func110, Try.ntmps110
  go_wp2
  go_quiet ((first | (go_at_call 97; exact Calls.quiet_of_same (HSX.out _)) | (go_at_call 121; exact Calls.quiet_of_same (HM1.out _))))
  go_wp2
  go_quiet ((first | (go_at_call 97; exact quiet_add_same (HSY.out _)) | (go_at_call 121; exact quiet_add_same (HM2.out _))))
  clear q1 q2 q3 q4
  go_wp2_with fail
  refine (compare_any _ _ _).mono ?_
  rintro e w1 ⟨rfl, hw1⟩
  subst hw1
  have c0 : cmpI 0 0 = 0 := by unfold cmpI; simp
  go_wp2_with fail
  refine (compare_any _ _ _).mono ?_
  rintro e w1 ⟨rfl, hw1⟩
  subst hw1
  go_wp2_with fail
  refine (or2_any _ _ _ 0 (cmpI P R) _ (by go_simp) (by go_simp)).mono ?_
  rintro e w1 ⟨rfl, hw1⟩
  subst hw1
  rw [if_pos rfl]
  go_wp2
  go_returns
  exact ⟨_, rfl, rfl, (below_drewN ((Below.refl _ _).alloc (Nat.le_refl _) _ |>.alloc (by simp) _) _).alloc (by simp <;> omega) _⟩

/-- What Frac of p/q is, if it is valid. -/
def okFrac (p q : Int) : Prop := Lim (lown p q) ∧ Lim (lowd p q)
/-- What line returns of a slope and a shift. -/
def LineR (p q r s : Int) (v : Value) (_ : World) : Prop :=
  (okFrac p q ∧ okFrac r s → v = .tuple #[.agg #[.int .i64 (lown p q), .int .i64 (lowd p q), .int .i64 (lown r s), .int .i64 (lowd r s)], .int .i64 0]) ∧
  (¬ (okFrac p q ∧ okFrac r s) → v = .tuple #[.agg #[.int .i64 0, .int .i64 0, .int .i64 0, .int .i64 0], .int .i64 5])
set_option maxHeartbeats 1600000 in
theorem rline_any (a b : Value) (p q r s : Int) (w : World) (h : WQ w a p q) (h' : WQ w b r s) (hs : sz p + sz q + sz r + sz s ≤ 100000000000) :
    Calls Try.prog 59 #[a, b] w (Ret (LineR p q r s) w) := by
  obtain ⟨A, n, c, A', n', c', rfl, ha, ha', hq⟩ := h
  obtain ⟨B, m, d, B', m', d', rfl, hb, hb', hq'⟩ := h'
  have HA := Lib.hid ha
  have HA' := Lib.hid ha'
  have HB := Lib.hid hb
  have HB' := Lib.hid hb'
  have HQ := Lib.hid hq
  have HQ' := Lib.hid hq'
  have HS := Lib.hid hs
  clear ha ha' hb hb' hq hq' hs
  go_enter Try.func59, Try.ntmps59
  go_wp2_with fail
  obtain ⟨W0, hW0⟩ : ∃ W0, W0 = ((w.alloc (.cells #[.bool (ng p), .slice A n c, .bool (ng q), .slice A' n' c'] TR)).alloc (.cells #[.bool (ng r), .slice B m d, .bool (ng s), .slice B' m' d'] TR)).alloc (.cells #[.int .i64 0, .int .i64 0, .int .i64 0, .int .i64 0] TAL) := ⟨_, rfl⟩
  have b1 : Blk W0 (w.heap.size + 1) TR #[.bool (ng r), .slice B m d, .bool (ng s), .slice B' m' d'] := by rw [hW0]; exact (Blk.new_ _ _ (by simp)).alloc _
  have b2 : Blk W0 (w.heap.size + 1 + 1) TAL #[.int .i64 0, .int .i64 0, .int .i64 0, .int .i64 0] := by rw [hW0]; exact Blk.new_ _ _ (by simp)
  have hbw : Below w.heap.size w W0 := by rw [hW0]; go_grown
  rw [← hW0]
  clear hW0
  refine (wfrac_any _ p q _ ⟨_, _, _, _, _, _, rfl, HA.out.below hbw, HA'.out.below hbw, HQ.out⟩ (by have := HS.out; omega) (by have := HS.out; omega)).mono ?_
  rintro e w1 ⟨v1, rfl, h1, hb1⟩
  have B1 := Lib.hid (b1.below hb1)
  have B2 := Lib.hid (b2.below hb1)
  have HW1 := Lib.hid (bt hbw hb1)
  clear b1 b2 hbw hb1
  by_cases hok1 : okFrac p q
  · have hv1 := h1.1 hok1
    subst hv1
    clear h1
    have k1 := B1.out.cells
    simp only [cellsAre, Nat.zero_add, Nat.reduceAdd, and_true] at k1
    have lt1 := B1.out.lt
    have lt2 := B2.out.lt
    go_wp2_with fail
    clear k1
    obtain ⟨W2, hW2⟩ : ∃ W2, W2 = w1.alloc (.cells #[.int .i64 (lown p q), .int .i64 (lowd p q)] TF) := ⟨_, rfl⟩
    have b1 : Blk W2 w1.heap.size TF #[.int .i64 (lown p q), .int .i64 (lowd p q)] := by rw [hW2]; exact Blk.new_ _ _ rfl
    have b2 : Blk W2 (w.heap.size + 1 + 1) TAL #[.int .i64 0, .int .i64 0, .int .i64 0, .int .i64 0] := by rw [hW2]; exact B2.out.alloc _
    have hbw : Below w.heap.size w W2 := by rw [hW2]; exact HW1.out.alloc HW1.out.size _
    rw [← hW2]
    clear hW2
    refine (wfrac_any _ r s _ ⟨_, _, _, _, _, _, rfl, HB.out.below hbw, HB'.out.below hbw, HQ'.out⟩ (by have := HS.out; omega) (by have := HS.out; omega)).mono ?_
    rintro e w2 ⟨v2, rfl, h2, hb2⟩
    have kb := (b1.below hb2).cells
    have kc := (b2.below hb2).cells
    have kf := (b2.below hb2).free
    have ltb := (b1.below hb2).lt
    have ltc := (b2.below hb2).lt
    simp only [cellsAre, Nat.zero_add, Nat.reduceAdd, and_true] at kb kc
    have HBW2 := Lib.hid (bt hbw hb2)
    clear b1 b2 hbw hb2 lt1 lt2
    by_cases hok2 : okFrac r s
    · have hv2 := h2.1 hok2
      subst hv2
      clear h2
      go_wp2
      have kk2 := kc
      have hbf : ∀ o x0 x1 x2 x3, Below w.heap.size w (((((w2.setCell ⟨w.heap.size + 1 + 1, 0, none⟩ x0).setCell ⟨w.heap.size + 1 + 1, 1, none⟩ x1).setCell ⟨w.heap.size + 1 + 1, 2, none⟩ x2).setCell ⟨w.heap.size + 1 + 1, 3, none⟩ x3).alloc o) := fun o x0 x1 x2 x3 => ((((HBW2.out.setCell (by simp <;> omega) _).setCell (by simp <;> omega) _).setCell (by simp <;> omega) _).setCell (by simp <;> omega) _).alloc (by have := HBW2.out.size; simpa using this) o
      have HBF := Lib.hid hbf
      (try simp only [Exit.inBlock, Exit.then])
      refine bodyPost_ret (v := .tuple #[.agg #[.int .i64 (lown p q), .int .i64 (lowd p q), .int .i64 (lown r s), .int .i64 (lowd r s)], .int .i64 0]) (by simp [results, Try.results59, go_sem, kk2, Nat.ne_of_lt ltc, World.cell?_alloc_old]) rfl ?_
      exact ⟨_, rfl, ⟨fun _ => rfl, fun h => absurd ⟨hok1, hok2⟩ h⟩, HBF.out _ _ _ _ _⟩
    · have hv2 := h2.2 hok2
      subst hv2
      clear h2
      go_wp2
      have kk2 := kc
      have hbf : ∀ o x0 x1 x2 x3, Below w.heap.size w (((((w2.setCell ⟨w.heap.size + 1 + 1, 0, none⟩ x0).setCell ⟨w.heap.size + 1 + 1, 1, none⟩ x1).setCell ⟨w.heap.size + 1 + 1, 2, none⟩ x2).setCell ⟨w.heap.size + 1 + 1, 3, none⟩ x3).alloc o) := fun o x0 x1 x2 x3 => ((((HBW2.out.setCell (by simp <;> omega) _).setCell (by simp <;> omega) _).setCell (by simp <;> omega) _).setCell (by simp <;> omega) _).alloc (by have := HBW2.out.size; simpa using this) o
      have HBF := Lib.hid hbf
      (try simp only [Exit.inBlock, Exit.then])
      refine bodyPost_ret (v := .tuple #[.agg #[.int .i64 0, .int .i64 0, .int .i64 0, .int .i64 0], .int .i64 5]) (by simp [results, Try.results59, go_sem, kk2, Nat.ne_of_lt ltc, World.cell?_alloc_old]) rfl ?_
      exact ⟨_, rfl, ⟨fun h => absurd h.2 hok2, fun _ => rfl⟩, HBF.out _ _ _ _ _⟩
  · have hv1 := h1.2 hok1
    subst hv1
    clear h1
    have k1 := B1.out.cells
    simp only [cellsAre, Nat.zero_add, Nat.reduceAdd, and_true] at k1
    have lt1 := B1.out.lt
    have lt2 := B2.out.lt
    go_wp2_with fail
    clear k1
    obtain ⟨W2, hW2⟩ : ∃ W2, W2 = w1.alloc (.cells #[.int .i64 (0), .int .i64 (0)] TF) := ⟨_, rfl⟩
    have b1 : Blk W2 w1.heap.size TF #[.int .i64 (0), .int .i64 (0)] := by rw [hW2]; exact Blk.new_ _ _ rfl
    have b2 : Blk W2 (w.heap.size + 1 + 1) TAL #[.int .i64 0, .int .i64 0, .int .i64 0, .int .i64 0] := by rw [hW2]; exact B2.out.alloc _
    have hbw : Below w.heap.size w W2 := by rw [hW2]; exact HW1.out.alloc HW1.out.size _
    rw [← hW2]
    clear hW2
    refine (wfrac_any _ r s _ ⟨_, _, _, _, _, _, rfl, HB.out.below hbw, HB'.out.below hbw, HQ'.out⟩ (by have := HS.out; omega) (by have := HS.out; omega)).mono ?_
    rintro e w2 ⟨v2, rfl, h2, hb2⟩
    have kb := (b1.below hb2).cells
    have kc := (b2.below hb2).cells
    have kf := (b2.below hb2).free
    have ltb := (b1.below hb2).lt
    have ltc := (b2.below hb2).lt
    simp only [cellsAre, Nat.zero_add, Nat.reduceAdd, and_true] at kb kc
    have HBW2 := Lib.hid (bt hbw hb2)
    clear b1 b2 hbw hb2 lt1 lt2
    by_cases hok2 : okFrac r s
    · have hv2 := h2.1 hok2
      subst hv2
      clear h2
      go_wp2
      have kk2 := kc
      have hbf : ∀ o x0 x1 x2 x3, Below w.heap.size w (((((w2.setCell ⟨w.heap.size + 1 + 1, 0, none⟩ x0).setCell ⟨w.heap.size + 1 + 1, 1, none⟩ x1).setCell ⟨w.heap.size + 1 + 1, 2, none⟩ x2).setCell ⟨w.heap.size + 1 + 1, 3, none⟩ x3).alloc o) := fun o x0 x1 x2 x3 => ((((HBW2.out.setCell (by simp <;> omega) _).setCell (by simp <;> omega) _).setCell (by simp <;> omega) _).setCell (by simp <;> omega) _).alloc (by have := HBW2.out.size; simpa using this) o
      have HBF := Lib.hid hbf
      (try simp only [Exit.inBlock, Exit.then])
      refine bodyPost_ret (v := .tuple #[.agg #[.int .i64 0, .int .i64 0, .int .i64 0, .int .i64 0], .int .i64 5]) (by simp [results, Try.results59, go_sem, kk2, Nat.ne_of_lt ltc, World.cell?_alloc_old]) rfl ?_
      exact ⟨_, rfl, ⟨fun h => absurd h.1 hok1, fun _ => rfl⟩, HBF.out _ _ _ _ _⟩
    · have hv2 := h2.2 hok2
      subst hv2
      clear h2
      go_wp2
      have kk2 := kc
      have hbf : ∀ o x0 x1 x2 x3, Below w.heap.size w (((((w2.setCell ⟨w.heap.size + 1 + 1, 0, none⟩ x0).setCell ⟨w.heap.size + 1 + 1, 1, none⟩ x1).setCell ⟨w.heap.size + 1 + 1, 2, none⟩ x2).setCell ⟨w.heap.size + 1 + 1, 3, none⟩ x3).alloc o) := fun o x0 x1 x2 x3 => ((((HBW2.out.setCell (by simp <;> omega) _).setCell (by simp <;> omega) _).setCell (by simp <;> omega) _).setCell (by simp <;> omega) _).alloc (by have := HBW2.out.size; simpa using this) o
      have HBF := Lib.hid hbf
      (try simp only [Exit.inBlock, Exit.then])
      refine bodyPost_ret (v := .tuple #[.agg #[.int .i64 0, .int .i64 0, .int .i64 0, .int .i64 0], .int .i64 5]) (by simp [results, Try.results59, go_sem, kk2, Nat.ne_of_lt ltc, World.cell?_alloc_old]) rfl ?_
      exact ⟨_, rfl, ⟨fun h => absurd h.1 hok1, fun _ => rfl⟩, HBF.out _ _ _ _ _⟩
end Go.Proofs.Tb
