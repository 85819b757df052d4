/- Contracts of the reference's numbers of any size, fifth part: Add. -/
import Derived.Test.YtcbffkkcldnegaaRefD
set_option linter.unusedVariables false
set_option linter.unusedSimpArgs false
namespace Go.Proofs.Tb
open Go.RowKit
attribute [local go_sem] cell_set_same

theorem Sl.nle {w : World} {A : Option Addr} {n c m k : Nat} (h : Sl TN w A n c (LZ m)) (hk : dl BT m ≤ k) : n ≤ k := by rw [h.lenZ]; exact hk
set_option maxHeartbeats 1600000 in
theorem zadd_any (v v' : Value) (x y : Int) (w : World) (h : ZI w v x) (h' : ZI w v' y) (hs : s10 x ≤ 700000000000) (hs' : s10 y ≤ 700000000000) :
    Calls Try.prog 69 #[v, v'] w (Ret (fun v w' => ZI w' v (x + y)) w) := by
  obtain ⟨A, n, c, rfl, h⟩ := h
  obtain ⟨A', n', c', rfl, h'⟩ := h'
  have HN1 := Lib.hid (h.nle (k := 800000000000) (by unfold s10 at hs; omega))
  have HN2 := Lib.hid (h'.nle (k := 800000000000) (by unfold s10 at hs'; omega))
  have HXY := Lib.hid (show y.natAbs ≤ x.natAbs → n' ≤ n from fun hle => by rw [h.lenZ, h'.lenZ]; exact dl_mono BT two_BT _ _ hle)
  have HYX := Lib.hid (show x.natAbs ≤ y.natAbs → n ≤ n' from fun hle => by rw [h.lenZ, h'.lenZ]; exact dl_mono BT two_BT _ _ hle)
  have H := Lib.hid h
  have H' := Lib.hid h'
  have DX := Lib.hid (digs_dg BT two_BT x.natAbs)
  have DY := Lib.hid (digs_dg BT two_BT y.natAbs)
  have VX := Lib.hid (val_digs BT two_BT x.natAbs)
  have VY := Lib.hid (val_digs BT two_BT y.natAbs)
  clear h h' hs hs'
  obtain ⟨s, hsx⟩ : ∃ s, ng x = s := ⟨_, rfl⟩
  obtain ⟨s', hsy⟩ : ∃ s, ng y = s := ⟨_, rfl⟩
  rw [hsx, hsy]
  by_cases hss : s = s'
  · subst hss
    have HN := Lib.hid (ng_add_same (hsx.trans hsy.symm))
    rw [hsx] at HN
    clear hsx hsy
    cases s
    · go_enter Try.func69, Try.ntmps69
      go_wp2
      refine wp_world (fun W0 => Blk W0 w.heap.size TZ #[.bool false, .slice A n c] ∧ Blk W0 (w.heap.size + 1) TZ #[.bool false, .slice A' n' c'] ∧ Blk W0 (w.heap.size + 1 + 1) TZ #[.bool false, .slice none 0 0] ∧ Below w.heap.size w W0) (by exact ⟨((Blk.new_ _ _ rfl).alloc _).alloc _, (Blk.new_ _ _ (by simp)).alloc _, Blk.new_ _ _ (by simp), by go_grown⟩) ?_
      rintro W0 ⟨b0, b1, b2, hbw⟩
      have k0 := fun w' (hh : Held (w.heap.size + 1 + 1) 2 TZ W0 w') => (b0.held hh (by omega)).cells
      have k1 := fun w' (hh : Held (w.heap.size + 1 + 1) 2 TZ W0 w') => (b1.held hh (by omega)).cells
      have hst : Held (w.heap.size + 1 + 1) 2 TZ W0 W0.drew := b2.heldS.drew
      simp only [cellsAre, Nat.zero_add, Nat.reduceAdd, and_true] at k0 k1
      have r1 := (rules (w.heap.size + 1 + 1) 2 TZ W0).some
      have r2 := (rules (w.heap.size + 1 + 1) 2 TZ W0).free
      clear b0 b1 b2
      go_region_held3 (fun w' => Held (w.heap.size + 1 + 1) 2 TZ W0 w') (first | assumption | exact Held.trans_ (by assumption) (by assumption) | exact Held.set_ (Held.set_ (by assumption) _ _) _ _)
        (first | (go_at_call 105; refine (zplus_any _ _ _ _ _ _ (digs BT x.natAbs) (digs BT y.natAbs) _ (H.out.below hbw.drew) (H'.out.below hbw.drew) DX.out DY.out HN1.out HN2.out).mono ?_; rintro e w1 ⟨v1, rfl, ⟨cs1, ⟨A1, n1, c1, rfl, h1⟩, hd1, hv1, hl1⟩, hb1⟩; have HV1 := Lib.hid (And.intro hd1 (And.intro hv1 (And.intro hl1 h1))); clear hd1 hv1 hl1 h1) | (go_at_call 104; refine (zlean_any _ _ _ _ cs1 (x + y) _ HV1.out.2.2.2 HV1.out.1 (by rw [HV1.out.2.1, VX.out, VY.out]; exact HN.out.1.symm) HN.out.2 (by have h1 := HV1.out.2.2.2.len; have h2 := HV1.out.2.2.1; rw [List.length_map] at h1; omega)).mono ?_; rintro e w2 ⟨v2, rfl, ⟨A2, n2, c2, rfl, h2⟩, hb2⟩))
      have hh2 : Held (w.heap.size + 1 + 1) 2 TZ W0 w2 := (hst.trans_ hb1).trans_ hb2
      go_wp2
      (try simp only [Exit.inBlock, Exit.then])
      refine bodyPost_ret (v := .agg #[.bool (ng (x + y)), .slice A2 n2 c2]) (by simp [results, Try.results69, go_sem, r1 _ hh2]) rfl ?_
      have hst2 := Held.set_ (Held.set_ hh2.here 0 (.bool (ng (x + y)))) 1 (.slice A2 n2 c2)
      exact ⟨_, rfl, ⟨A2, n2, c2, rfl, h2.held hst2 (by decide)⟩, (hh2.trans2 hst2).below hbw (by omega)⟩
    · go_enter Try.func69, Try.ntmps69
      go_wp2
      refine wp_world (fun W0 => Blk W0 w.heap.size TZ #[.bool true, .slice A n c] ∧ Blk W0 (w.heap.size + 1) TZ #[.bool true, .slice A' n' c'] ∧ Blk W0 (w.heap.size + 1 + 1) TZ #[.bool false, .slice none 0 0] ∧ Below w.heap.size w W0) (by exact ⟨((Blk.new_ _ _ rfl).alloc _).alloc _, (Blk.new_ _ _ (by simp)).alloc _, Blk.new_ _ _ (by simp), by go_grown⟩) ?_
      rintro W0 ⟨b0, b1, b2, hbw⟩
      have k0 := fun w' (hh : Held (w.heap.size + 1 + 1) 2 TZ W0 w') => (b0.held hh (by omega)).cells
      have k1 := fun w' (hh : Held (w.heap.size + 1 + 1) 2 TZ W0 w') => (b1.held hh (by omega)).cells
      have hst : Held (w.heap.size + 1 + 1) 2 TZ W0 W0.drew := b2.heldS.drew
      simp only [cellsAre, Nat.zero_add, Nat.reduceAdd, and_true] at k0 k1
      have r1 := (rules (w.heap.size + 1 + 1) 2 TZ W0).some
      have r2 := (rules (w.heap.size + 1 + 1) 2 TZ W0).free
      clear b0 b1 b2
      go_region_held3 (fun w' => Held (w.heap.size + 1 + 1) 2 TZ W0 w') (first | assumption | exact Held.trans_ (by assumption) (by assumption) | exact Held.set_ (Held.set_ (by assumption) _ _) _ _)
        (first | (go_at_call 105; refine (zplus_any _ _ _ _ _ _ (digs BT x.natAbs) (digs BT y.natAbs) _ (H.out.below hbw.drew) (H'.out.below hbw.drew) DX.out DY.out HN1.out HN2.out).mono ?_; rintro e w1 ⟨v1, rfl, ⟨cs1, ⟨A1, n1, c1, rfl, h1⟩, hd1, hv1, hl1⟩, hb1⟩; have HV1 := Lib.hid (And.intro hd1 (And.intro hv1 (And.intro hl1 h1))); clear hd1 hv1 hl1 h1) | (go_at_call 104; refine (zlean_any _ _ _ _ cs1 (x + y) _ HV1.out.2.2.2 HV1.out.1 (by rw [HV1.out.2.1, VX.out, VY.out]; exact HN.out.1.symm) HN.out.2 (by have h1 := HV1.out.2.2.2.len; have h2 := HV1.out.2.2.1; rw [List.length_map] at h1; omega)).mono ?_; rintro e w2 ⟨v2, rfl, ⟨A2, n2, c2, rfl, h2⟩, hb2⟩))
      have hh2 : Held (w.heap.size + 1 + 1) 2 TZ W0 w2 := (hst.trans_ hb1).trans_ hb2
      go_wp2
      (try simp only [Exit.inBlock, Exit.then])
      refine bodyPost_ret (v := .agg #[.bool (ng (x + y)), .slice A2 n2 c2]) (by simp [results, Try.results69, go_sem, r1 _ hh2]) rfl ?_
      have hst2 := Held.set_ (Held.set_ hh2.here 0 (.bool (ng (x + y)))) 1 (.slice A2 n2 c2)
      exact ⟨_, rfl, ⟨A2, n2, c2, rfl, h2.held hst2 (by decide)⟩, (hh2.trans2 hst2).below hbw (by omega)⟩
  · have hne : ng x ≠ ng y := by rw [hsx, hsy]; exact hss
    by_cases hle : y.natAbs ≤ x.natAbs
    · have HN := Lib.hid (ng_add_ge hne hle)
      rw [hsx] at HN
      have HLE := Lib.hid hle
      clear hsx hsy hne hle
      cases s <;> cases s' <;> first | exact absurd rfl hss | skip
      · clear hss
        go_enter Try.func69, Try.ntmps69
        go_wp2_with fail
        have hbx : Below w.heap.size w (((w.alloc (.cells #[.bool false, .slice A n c] TZ)).alloc (.cells #[.bool true, .slice A' n' c'] TZ)).alloc (.cells #[.bool false, .slice none 0 0] TZ)) := by go_grown
        refine (zsizes_any _ _ _ _ _ _ _ _ _ (H.out.below hbx) (H'.out.below hbx)).mono ?_
        rintro e w0 ⟨v0, rfl, hr, hb0⟩
        subst hr
        obtain ⟨r, hr⟩ : ∃ r, cmpN x.natAbs y.natAbs = r := ⟨_, rfl⟩
        rw [hr]
        have hr0 : 0 ≤ r := by rw [← hr]; have := HLE.out; unfold cmpN; rw [if_neg (by omega)]; split <;> omega
        clear hr
        have hbw := bt hbx hb0
        have b0 : Blk w0 w.heap.size TZ #[.bool false, .slice A n c] := (((Blk.new_ _ _ rfl).alloc _).alloc _).below hb0
        have b1 : Blk w0 (w.heap.size + 1) TZ #[.bool true, .slice A' n' c'] := ((Blk.new_ _ _ (by simp)).alloc _).below hb0
        have b2 : Blk w0 (w.heap.size + 1 + 1) TZ #[.bool false, .slice none 0 0] := (Blk.new_ _ _ (by simp)).below hb0
        clear hb0 hbx
        obtain ⟨W0, rfl⟩ : ∃ W0, W0 = w0 := ⟨_, rfl⟩
        have d0 := b0.cells
        have d1 := b1.cells
        simp only [cellsAre, Nat.zero_add, Nat.reduceAdd, and_true] at d0 d1
        have k0 := fun w' (hh : Held (w.heap.size + 1 + 1) 2 TZ W0 w') => (b0.held hh (by omega)).cells
        have k1 := fun w' (hh : Held (w.heap.size + 1 + 1) 2 TZ W0 w') => (b1.held hh (by omega)).cells
        have hst : Held (w.heap.size + 1 + 1) 2 TZ W0 W0.drew := b2.heldS.drew
        simp only [cellsAre, Nat.zero_add, Nat.reduceAdd, and_true] at k0 k1
        have r1 := (rules (w.heap.size + 1 + 1) 2 TZ W0).some
        have r2 := (rules (w.heap.size + 1 + 1) 2 TZ W0).free
        clear b0 b1 b2
        go_wp2
        go_region_held3 (fun w' => Held (w.heap.size + 1 + 1) 2 TZ W0 w') (first | assumption | exact Held.trans_ (by assumption) (by assumption) | exact Held.set_ (Held.set_ (by assumption) _ _) _ _)
          (first | (go_at_call 107; refine (zless_any _ _ _ _ _ _ (digs BT x.natAbs) (digs BT y.natAbs) _ (H.out.below hbw.drew) (H'.out.below hbw.drew) DX.out DY.out (HXY.out HLE.out) (by rw [VX.out, VY.out]; exact HLE.out) HN1.out).mono ?_; rintro e w1 ⟨v1, rfl, ⟨cs1, ⟨A1, n1, c1, rfl, h1⟩, hd1, hv1, hl1⟩, hb1⟩; have HV1 := Lib.hid (And.intro hd1 (And.intro hv1 (And.intro hl1 h1))); clear hd1 hv1 hl1 h1) | (go_at_call 104; refine (zlean_any _ _ _ _ cs1 (x + y) _ HV1.out.2.2.2 HV1.out.1 (by rw [HV1.out.2.1, VX.out, VY.out]; exact HN.out.1.symm) HN.out.2 (by have h1 := HV1.out.2.2.2.len; have h2 := HV1.out.2.2.1; rw [List.length_map] at h1; omega)).mono ?_; rintro e w2 ⟨v2, rfl, ⟨A2, n2, c2, rfl, h2⟩, hb2⟩))
        have hh2 : Held (w.heap.size + 1 + 1) 2 TZ W0 w2 := (hst.trans_ hb1).trans_ hb2
        go_wp2
        (try simp only [Exit.inBlock, Exit.then])
        refine bodyPost_ret (v := .agg #[.bool (ng (x + y)), .slice A2 n2 c2]) (by simp [results, Try.results69, go_sem, r1 _ hh2]) rfl ?_
        have hst2 := Held.set_ (Held.set_ hh2.here 0 (.bool (ng (x + y)))) 1 (.slice A2 n2 c2)
        exact ⟨_, rfl, ⟨A2, n2, c2, rfl, h2.held hst2 (by decide)⟩, (hh2.trans2 hst2).below hbw (by omega)⟩
      · clear hss
        go_enter Try.func69, Try.ntmps69
        go_wp2_with fail
        have hbx : Below w.heap.size w (((w.alloc (.cells #[.bool true, .slice A n c] TZ)).alloc (.cells #[.bool false, .slice A' n' c'] TZ)).alloc (.cells #[.bool false, .slice none 0 0] TZ)) := by go_grown
        refine (zsizes_any _ _ _ _ _ _ _ _ _ (H.out.below hbx) (H'.out.below hbx)).mono ?_
        rintro e w0 ⟨v0, rfl, hr, hb0⟩
        subst hr
        obtain ⟨r, hr⟩ : ∃ r, cmpN x.natAbs y.natAbs = r := ⟨_, rfl⟩
        rw [hr]
        have hr0 : 0 ≤ r := by rw [← hr]; have := HLE.out; unfold cmpN; rw [if_neg (by omega)]; split <;> omega
        clear hr
        have hbw := bt hbx hb0
        have b0 : Blk w0 w.heap.size TZ #[.bool true, .slice A n c] := (((Blk.new_ _ _ rfl).alloc _).alloc _).below hb0
        have b1 : Blk w0 (w.heap.size + 1) TZ #[.bool false, .slice A' n' c'] := ((Blk.new_ _ _ (by simp)).alloc _).below hb0
        have b2 : Blk w0 (w.heap.size + 1 + 1) TZ #[.bool false, .slice none 0 0] := (Blk.new_ _ _ (by simp)).below hb0
        clear hb0 hbx
        obtain ⟨W0, rfl⟩ : ∃ W0, W0 = w0 := ⟨_, rfl⟩
        have d0 := b0.cells
        have d1 := b1.cells
        simp only [cellsAre, Nat.zero_add, Nat.reduceAdd, and_true] at d0 d1
        have k0 := fun w' (hh : Held (w.heap.size + 1 + 1) 2 TZ W0 w') => (b0.held hh (by omega)).cells
        have k1 := fun w' (hh : Held (w.heap.size + 1 + 1) 2 TZ W0 w') => (b1.held hh (by omega)).cells
        have hst : Held (w.heap.size + 1 + 1) 2 TZ W0 W0.drew := b2.heldS.drew
        simp only [cellsAre, Nat.zero_add, Nat.reduceAdd, and_true] at k0 k1
        have r1 := (rules (w.heap.size + 1 + 1) 2 TZ W0).some
        have r2 := (rules (w.heap.size + 1 + 1) 2 TZ W0).free
        clear b0 b1 b2
        go_wp2
        go_region_held3 (fun w' => Held (w.heap.size + 1 + 1) 2 TZ W0 w') (first | assumption | exact Held.trans_ (by assumption) (by assumption) | exact Held.set_ (Held.set_ (by assumption) _ _) _ _)
          (first | (go_at_call 107; refine (zless_any _ _ _ _ _ _ (digs BT x.natAbs) (digs BT y.natAbs) _ (H.out.below hbw.drew) (H'.out.below hbw.drew) DX.out DY.out (HXY.out HLE.out) (by rw [VX.out, VY.out]; exact HLE.out) HN1.out).mono ?_; rintro e w1 ⟨v1, rfl, ⟨cs1, ⟨A1, n1, c1, rfl, h1⟩, hd1, hv1, hl1⟩, hb1⟩; have HV1 := Lib.hid (And.intro hd1 (And.intro hv1 (And.intro hl1 h1))); clear hd1 hv1 hl1 h1) | (go_at_call 104; refine (zlean_any _ _ _ _ cs1 (x + y) _ HV1.out.2.2.2 HV1.out.1 (by rw [HV1.out.2.1, VX.out, VY.out]; exact HN.out.1.symm) HN.out.2 (by have h1 := HV1.out.2.2.2.len; have h2 := HV1.out.2.2.1; rw [List.length_map] at h1; omega)).mono ?_; rintro e w2 ⟨v2, rfl, ⟨A2, n2, c2, rfl, h2⟩, hb2⟩))
        have hh2 : Held (w.heap.size + 1 + 1) 2 TZ W0 w2 := (hst.trans_ hb1).trans_ hb2
        go_wp2
        (try simp only [Exit.inBlock, Exit.then])
        refine bodyPost_ret (v := .agg #[.bool (ng (x + y)), .slice A2 n2 c2]) (by simp [results, Try.results69, go_sem, r1 _ hh2]) rfl ?_
        have hst2 := Held.set_ (Held.set_ hh2.here 0 (.bool (ng (x + y)))) 1 (.slice A2 n2 c2)
        exact ⟨_, rfl, ⟨A2, n2, c2, rfl, h2.held hst2 (by decide)⟩, (hh2.trans2 hst2).below hbw (by omega)⟩
    · have hlt : x.natAbs < y.natAbs := by omega
      have HN := Lib.hid (ng_add_lt hne hlt)
      rw [hsy] at HN
      have HLE := Lib.hid hlt
      clear hsx hsy hne hle hlt
      cases s <;> cases s' <;> first | exact absurd rfl hss | skip
      · clear hss
        go_enter Try.func69, Try.ntmps69
        go_wp2_with fail
        have hbx : Below w.heap.size w (((w.alloc (.cells #[.bool false, .slice A n c] TZ)).alloc (.cells #[.bool true, .slice A' n' c'] TZ)).alloc (.cells #[.bool false, .slice none 0 0] TZ)) := by go_grown
        refine (zsizes_any _ _ _ _ _ _ _ _ _ (H.out.below hbx) (H'.out.below hbx)).mono ?_
        rintro e w0 ⟨v0, rfl, hr, hb0⟩
        subst hr
        obtain ⟨r, hr⟩ : ∃ r, cmpN x.natAbs y.natAbs = r := ⟨_, rfl⟩
        rw [hr]
        have hr0 : r < 0 := by rw [← hr]; have := HLE.out; unfold cmpN; rw [if_pos (by omega)]; omega
        clear hr
        have hbw := bt hbx hb0
        have b0 : Blk w0 w.heap.size TZ #[.bool false, .slice A n c] := (((Blk.new_ _ _ rfl).alloc _).alloc _).below hb0
        have b1 : Blk w0 (w.heap.size + 1) TZ #[.bool true, .slice A' n' c'] := ((Blk.new_ _ _ (by simp)).alloc _).below hb0
        have b2 : Blk w0 (w.heap.size + 1 + 1) TZ #[.bool false, .slice none 0 0] := (Blk.new_ _ _ (by simp)).below hb0
        clear hb0 hbx
        obtain ⟨W0, rfl⟩ : ∃ W0, W0 = w0 := ⟨_, rfl⟩
        have d0 := b0.cells
        have d1 := b1.cells
        simp only [cellsAre, Nat.zero_add, Nat.reduceAdd, and_true] at d0 d1
        have k0 := fun w' (hh : Held (w.heap.size + 1 + 1) 2 TZ W0 w') => (b0.held hh (by omega)).cells
        have k1 := fun w' (hh : Held (w.heap.size + 1 + 1) 2 TZ W0 w') => (b1.held hh (by omega)).cells
        have hst : Held (w.heap.size + 1 + 1) 2 TZ W0 W0.drew := b2.heldS.drew
        simp only [cellsAre, Nat.zero_add, Nat.reduceAdd, and_true] at k0 k1
        have r1 := (rules (w.heap.size + 1 + 1) 2 TZ W0).some
        have r2 := (rules (w.heap.size + 1 + 1) 2 TZ W0).free
        clear b0 b1 b2
        go_wp2
        go_region_held3 (fun w' => Held (w.heap.size + 1 + 1) 2 TZ W0 w') (first | assumption | exact Held.trans_ (by assumption) (by assumption) | exact Held.set_ (Held.set_ (by assumption) _ _) _ _)
          (first | (go_at_call 107; refine (zless_any _ _ _ _ _ _ (digs BT y.natAbs) (digs BT x.natAbs) _ (H'.out.below hbw.drew) (H.out.below hbw.drew) DY.out DX.out (HYX.out (Nat.le_of_lt HLE.out)) (by rw [VX.out, VY.out]; exact Nat.le_of_lt HLE.out) HN2.out).mono ?_; rintro e w1 ⟨v1, rfl, ⟨cs1, ⟨A1, n1, c1, rfl, h1⟩, hd1, hv1, hl1⟩, hb1⟩; have HV1 := Lib.hid (And.intro hd1 (And.intro hv1 (And.intro hl1 h1))); clear hd1 hv1 hl1 h1) | (go_at_call 104; refine (zlean_any _ _ _ _ cs1 (x + y) _ HV1.out.2.2.2 HV1.out.1 (by rw [HV1.out.2.1, VY.out, VX.out]; exact HN.out.1.symm) HN.out.2 (by have h1 := HV1.out.2.2.2.len; have h2 := HV1.out.2.2.1; rw [List.length_map] at h1; omega)).mono ?_; rintro e w2 ⟨v2, rfl, ⟨A2, n2, c2, rfl, h2⟩, hb2⟩))
        have hh2 : Held (w.heap.size + 1 + 1) 2 TZ W0 w2 := (hst.trans_ hb1).trans_ hb2
        go_wp2
        (try simp only [Exit.inBlock, Exit.then])
        refine bodyPost_ret (v := .agg #[.bool (ng (x + y)), .slice A2 n2 c2]) (by simp [results, Try.results69, go_sem, r1 _ hh2]) rfl ?_
        have hst2 := Held.set_ (Held.set_ hh2.here 0 (.bool (ng (x + y)))) 1 (.slice A2 n2 c2)
        exact ⟨_, rfl, ⟨A2, n2, c2, rfl, h2.held hst2 (by decide)⟩, (hh2.trans2 hst2).below hbw (by omega)⟩
      · clear hss
        go_enter Try.func69, Try.ntmps69
        go_wp2_with fail
        have hbx : Below w.heap.size w (((w.alloc (.cells #[.bool true, .slice A n c] TZ)).alloc (.cells #[.bool false, .slice A' n' c'] TZ)).alloc (.cells #[.bool false, .slice none 0 0] TZ)) := by go_grown
        refine (zsizes_any _ _ _ _ _ _ _ _ _ (H.out.below hbx) (H'.out.below hbx)).mono ?_
        rintro e w0 ⟨v0, rfl, hr, hb0⟩
        subst hr
        obtain ⟨r, hr⟩ : ∃ r, cmpN x.natAbs y.natAbs = r := ⟨_, rfl⟩
        rw [hr]
        have hr0 : r < 0 := by rw [← hr]; have := HLE.out; unfold cmpN; rw [if_pos (by omega)]; omega
        clear hr
        have hbw := bt hbx hb0
        have b0 : Blk w0 w.heap.size TZ #[.bool true, .slice A n c] := (((Blk.new_ _ _ rfl).alloc _).alloc _).below hb0
        have b1 : Blk w0 (w.heap.size + 1) TZ #[.bool false, .slice A' n' c'] := ((Blk.new_ _ _ (by simp)).alloc _).below hb0
        have b2 : Blk w0 (w.heap.size + 1 + 1) TZ #[.bool false, .slice none 0 0] := (Blk.new_ _ _ (by simp)).below hb0
        clear hb0 hbx
        obtain ⟨W0, rfl⟩ : ∃ W0, W0 = w0 := ⟨_, rfl⟩
        have d0 := b0.cells
        have d1 := b1.cells
        simp only [cellsAre, Nat.zero_add, Nat.reduceAdd, and_true] at d0 d1
        have k0 := fun w' (hh : Held (w.heap.size + 1 + 1) 2 TZ W0 w') => (b0.held hh (by omega)).cells
        have k1 := fun w' (hh : Held (w.heap.size + 1 + 1) 2 TZ W0 w') => (b1.held hh (by omega)).cells
        have hst : Held (w.heap.size + 1 + 1) 2 TZ W0 W0.drew := b2.heldS.drew
        simp only [cellsAre, Nat.zero_add, Nat.reduceAdd, and_true] at k0 k1
        have r1 := (rules (w.heap.size + 1 + 1) 2 TZ W0).some
        have r2 := (rules (w.heap.size + 1 + 1) 2 TZ W0).free
        clear b0 b1 b2
        go_wp2
        go_region_held3 (fun w' => Held (w.heap.size + 1 + 1) 2 TZ W0 w') (first | assumption | exact Held.trans_ (by assumption) (by assumption) | exact Held.set_ (Held.set_ (by assumption) _ _) _ _)
          (first | (go_at_call 107; refine (zless_any _ _ _ _ _ _ (digs BT y.natAbs) (digs BT x.natAbs) _ (H'.out.below hbw.drew) (H.out.below hbw.drew) DY.out DX.out (HYX.out (Nat.le_of_lt HLE.out)) (by rw [VX.out, VY.out]; exact Nat.le_of_lt HLE.out) HN2.out).mono ?_; rintro e w1 ⟨v1, rfl, ⟨cs1, ⟨A1, n1, c1, rfl, h1⟩, hd1, hv1, hl1⟩, hb1⟩; have HV1 := Lib.hid (And.intro hd1 (And.intro hv1 (And.intro hl1 h1))); clear hd1 hv1 hl1 h1) | (go_at_call 104; refine (zlean_any _ _ _ _ cs1 (x + y) _ HV1.out.2.2.2 HV1.out.1 (by rw [HV1.out.2.1, VY.out, VX.out]; exact HN.out.1.symm) HN.out.2 (by have h1 := HV1.out.2.2.2.len; have h2 := HV1.out.2.2.1; rw [List.length_map] at h1; omega)).mono ?_; rintro e w2 ⟨v2, rfl, ⟨A2, n2, c2, rfl, h2⟩, hb2⟩))
        have hh2 : Held (w.heap.size + 1 + 1) 2 TZ W0 w2 := (hst.trans_ hb1).trans_ hb2
        go_wp2
        (try simp only [Exit.inBlock, Exit.then])
        refine bodyPost_ret (v := .agg #[.bool (ng (x + y)), .slice A2 n2 c2]) (by simp [results, Try.results69, go_sem, r1 _ hh2]) rfl ?_
        have hst2 := Held.set_ (Held.set_ hh2.here 0 (.bool (ng (x + y)))) 1 (.slice A2 n2 c2)
        exact ⟨_, rfl, ⟨A2, n2, c2, rfl, h2.held hst2 (by decide)⟩, (hh2.trans2 hst2).below hbw (by omega)⟩
end Go.Proofs.Tb
