/- Contracts of the reference's numbers of any size: times, Small. -/
import Derived.Test.YtcbffkkcldnegaaRefG
set_option linter.unusedVariables false
set_option linter.unusedSimpArgs false
namespace Go.Proofs.Tb
open Go.RowKit
attribute [local go_sem] cell_set_same

theorem field_Z1 (b : Bool) (A : Option Addr) (n c : Nat) (w : World) : (Instr.field TZ (.agg #[.bool b, .slice A n c]) 1).run Try.prog w = .ok (.slice A n c) w := by kernel_rfl
attribute [local go_sem] field_Z1
theorem ng_nat (m : Nat) : ng (m : Int) = false := by unfold ng; simp
theorem ZI.of_nat {w : World} {A : Option Addr} {n c m : Nat} (h : Sl TN w A n c (LZ m)) : ZI w (.agg #[.bool false, .slice A n c]) (m : Int) := ⟨A, n, c, by rw [ng_nat], by rw [Int.natAbs_natCast]; exact h⟩
set_option maxHeartbeats 800000 in
set_option maxRecDepth 100000 in
theorem ztimes_any (A : Option Addr) (n c m d : Nat) (w : World) (h : Sl TN w A n c (LZ m)) (hd : d ≤ 10000) (hs : dl BT m ≤ 300000000000) :
    Calls Try.prog 108 #[.slice A n c, .int .i64 (d : Int)] w (Ret (fun v w' => SL TN w' v (LZ (m * d))) w) := by
  have H := Lib.hid h
  have HS := Lib.hid hs
  clear h hs
  have hd5 := s10_small (d : Int) (by omega) (by omega)
  have HD5 := Lib.hid hd5
  clear hd5
  have HMU : Hid (s10 (m : Int) + s10 (d : Int) ≤ 800000000000) := by
    have h1 := HD5.out
    have h2 := HS.out
    have h3 : s10 (m : Int) = dl BT m := by unfold s10; rw [Int.natAbs_natCast]
    show s10 (m : Int) + s10 (d : Int) ≤ 800000000000
    omega
  go_enter Try.func108, Try.ntmps108
  go_wp2_with fail
  refine (zint_any (d : Int) _ (by omega) (by omega)).mono ?_
  rintro e w1 ⟨v1, rfl, hz1, hb1⟩
  go_wp2_with fail
  refine (zmul_any _ _ (m : Int) (d : Int) _ (ZI.of_nat (H.out.below hb1)) hz1 HMU.out).mono ?_
  rintro e w2 ⟨v2, rfl, ⟨A2, n2, c2, rfl, h2⟩, hb2⟩
  have e1 : ((m : Int) * (d : Int)).natAbs = m * d := by rw [Int.natAbs_mul, Int.natAbs_natCast, Int.natAbs_natCast]
  have hn2 : n2 ≤ 1000000000000 := by
    have h3 := h2.lenZ
    rw [e1] at h3
    have h4 := dl_mul BT two_BT m d
    have h5 := HD5.out
    unfold s10 at h5
    rw [Int.natAbs_natCast] at h5
    have := HS.out
    omega
  have H2 := Lib.hid h2
  have HB := Lib.hid (bt hb1 hb2)
  clear h2 hb1 hb2 hz1
  go_wp2_with fail
  refine (zlean_any _ _ _ _ (digs BT ((m : Int) * (d : Int)).natAbs) ((m : Int) * (d : Int)) _ H2.out (digs_dg BT two_BT _) (val_digs BT two_BT _) (Or.inl rfl) hn2).mono ?_
  rintro e w3 ⟨v3, rfl, ⟨A3, n3, c3, rfl, h3⟩, hb3⟩
  have H3 := Lib.hid h3
  have HB3 := Lib.hid (bt HB.out hb3)
  have E1 := Lib.hid e1
  clear h3 hb3 e1 hn2
  go_wp2
  go_returns
  exact ⟨_, rfl, ⟨A3, n3, c3, rfl, by rw [← E1.out]; exact H3.out⟩, HB3.out⟩

theorem cmpN_pos {m m' : Nat} : 0 < cmpN m m' ↔ m' < m := by
  unfold cmpN
  split
  · constructor <;> omega
  · split <;> constructor <;> omega
theorem cmpN_le {m m' : Nat} : cmpN m m' ≤ 0 ↔ m ≤ m' := by
  have := cmpN_pos (m := m) (m' := m')
  omega
theorem val_drop_le (B : Nat) (hB : 0 < B) (xs : List Nat) (k : Nat) : val B (xs.drop k) ≤ val B xs := by
  have h := val_split B xs k
  have h1 : val B (xs.drop k) ≤ B ^ (xs.take k).length * val B (xs.drop k) := Nat.le_mul_of_pos_left _ (Nat.pow_pos hB)
  omega
set_option maxHeartbeats 1600000 in
set_option maxRecDepth 100000 in
theorem zsmall_any (v : Value) (z : Int) (w : World) (h : ZI w v z) : Calls Try.prog 80 #[v] w (Ret (Sm z) w) := by
  obtain ⟨A, n, c, rfl, h⟩ := h
  have hn := h.le
  have hc := h.cap
  obtain ⟨s, hs⟩ : ∃ s, ng z = s := ⟨_, rfl⟩
  rw [hs]
  have HS := Lib.hid hs
  have H := Lib.hid h
  clear h hs
  obtain ⟨big, hbig⟩ : ∃ big : Nat, big = 4611686018427387904 := ⟨_, rfl⟩
  have HINT : Hid (∀ W : World, Calls Try.prog 66 #[.int .i64 4611686018427387904] W (Ret (fun v w' => ∃ A n c, v = .agg #[.bool false, .slice A n c] ∧ Sl TN w' A n c (LZ big)) W)) := by
    intro W
    refine (zint_any 4611686018427387904 W (by omega) (by omega)).mono fun e w' h => h.imp fun v w'' ⟨A, n, c, hv, hs⟩ => ⟨A, n, c, by rw [hv]; rfl, by rw [hbig]; exact hs⟩
  have HBIG := Lib.hid hbig
  clear hbig
  go_enter Try.func80, Try.ntmps80
  go_wp2
  refine wp_world (fun W0 => Blk W0 w.heap.size TZ #[.bool s, .slice A n c] ∧ Below w.heap.size w W0) (by exact ⟨Blk.new_ _ _ rfl, by go_grown⟩) ?_
  rintro W0 ⟨b0, hbw⟩
  have k0 := fun w' (hh : Ext W0 w') => (b0.below hh).cells
  simp only [cellsAre, Nat.zero_add, Nat.reduceAdd, and_true] at k0
  have K0 := Lib.hid k0
  have hst : Ext W0 W0.drew := Ext.drew _
  have bw0 : Below w.heap.size w W0.drew := hbw.drew
  clear b0
  go_region_held3 (fun w' => Ext W0 w') (first | assumption | exact bt (by assumption) (by assumption))
    (first | (go_at_call 106; have tk := hb1; refine (zsizes_any _ _ _ _ _ _ z.natAbs big _ (H.out.below bw1) hx1).mono ?_; rintro e w2 ⟨v2, rfl, hv2, hb2⟩; subst hv2; have hh2 : Ext W0 w2 := bt hh1 hb2; have bw2 := bt bw1 hb2) | (go_at_call 66; refine (HINT.out _).mono ?_; rintro e w1 ⟨v1, rfl, ⟨A1, n1, c1, rfl, hx1⟩, hb1⟩; have hh1 : Ext W0 w1 := bt hst hb1; have bw1 := bt bw0 hb1))
  obtain ⟨r, hr⟩ : ∃ r, cmpN z.natAbs big = r := ⟨_, rfl⟩
  rw [hr]
  have kk := K0.out w2 hh2
  have HBW := Lib.hid bw2
  by_cases hr0 : 0 < r
  · have HBZ := Lib.hid (show 4611686018427387904 < z.natAbs by rw [← HBIG.out]; exact cmpN_pos.1 (by rw [hr]; exact hr0))
    clear hr hbw hst bw0 bw1 bw2 hh1 hh2 hb1 hb2 hx1
    go_wp2
    go_returns
    exact ⟨_, rfl, ⟨0, false, rfl, fun h => absurd HBZ.out (by omega), fun _ => ⟨rfl, rfl⟩⟩, HBW.out⟩
  · have HLE := Lib.hid (show z.natAbs ≤ 4611686018427387904 by rw [← HBIG.out]; rcases Nat.lt_or_ge big z.natAbs with h | h; exact absurd (cmpN_pos.2 h) (by rw [hr]; exact hr0); exact h)
    clear hr hbw hst bw0 bw1 bw2 hh1 hh2 hb1 hb2 hx1
    obtain ⟨xs, hxs⟩ : ∃ xs, digs BT z.natAbs = xs := ⟨_, rfl⟩
    have HV := Lib.hid (show val BT xs = z.natAbs by rw [← hxs]; exact val_digs BT two_BT _)
    have HD := Lib.hid (show Dg BT xs by rw [← hxs]; exact digs_dg BT two_BT _)
    have HSL := Lib.hid (show Sl TN w2 A n c (xs.map I64) by rw [← hxs]; exact H.out.below HBW.out)
    have HL := Lib.hid (show xs.length = n by have := HSL.out.len; rwa [List.length_map] at this)
    clear hxs
    go_wp2
    go_loop [4, 5] (fun v i => ∃ k : Nat, k ≤ n ∧ i = .int .i64 ((k : Int) - 1) ∧ v = .int .i64 ((val BT (xs.drop k) : Nat) : Int)) (fun _ i => (intOf i + 1).toNat)
    case atStart => exact ⟨n, Nat.le_refl _, rfl, by rw [← HL.out, List.drop_length]; rfl⟩
    case round =>
      obtain ⟨k, hk, rfl, rfl⟩ := hrel
      by_cases hk0 : 0 < k
      · obtain ⟨b, o, rfl, hcell⟩ := HSL.out.at_int (by omega)
        have hcl := hcell (k - 1) (by omega)
        clear hcell
        have hd1 := HD.out.getD (by unfold BT; omega) (k - 1)
        rw [BT_eq] at hd1
        have hvd := val_drop BT xs (k - 1) (by rw [HL.out]; omega)
        rw [show k - 1 + 1 = k by omega, BT_eq] at hvd
        have hvl := val_drop_le BT (by unfold BT; omega) xs (k - 1)
        rw [HV.out, BT_eq] at hvl
        have hle := HLE.out
        obtain ⟨d, hd⟩ : ∃ d, xs.getD (k - 1) 0 = d := ⟨_, rfl⟩
        rw [hd] at hcl hd1 hvd
        obtain ⟨V, hV⟩ : ∃ V, val BT (xs.drop k) = V := ⟨_, rfl⟩
        rw [hV]
        rw [BT_eq] at hV
        rw [hV] at hvd
        rw [hvd] at hvl
        have hb2 : (V : Int) * 10000 + (d : Int) ≤ 4611686018427387904 := by omega
        have HVD := Lib.hid hvd
        have hi0 : (0 : Int) ≤ (k : Int) - 1 := by omega
        have hi1 : (k : Int) - 1 < (n : Int) := by omega
        clear hvd hvl hV hd hle
        go_wp2
        go_round
        case rel => exact ⟨k - 1, by omega, by go_num, i64e (by rw [BT_eq, HVD.out]; omega)⟩
        case measure => simp [intOf]; omega
      · have : k = 0 := by omega
        subst this
        obtain ⟨V, hV⟩ : ∃ V, val BT (xs.drop 0) = V := ⟨_, rfl⟩
        rw [hV]
        have hVz : V = z.natAbs := by rw [← hV, List.drop_zero]; exact HV.out
        have hVl : (V : Int) ≤ 4611686018427387904 := by have := HLE.out; omega
        have HVZ := Lib.hid hVz
        clear hV hVz
        cases s
        · go_wp2
          go_returns
          exact ⟨_, rfl, ⟨V, true, rfl, fun _ => ⟨by have := HVZ.out; have := HS.out; unfold ng at this; simp at this; omega, rfl⟩, fun h => absurd HLE.out (by omega)⟩, HBW.out⟩
        · go_wp2
          go_returns
          exact ⟨_, rfl, ⟨-V, true, rfl, fun _ => ⟨by have := HVZ.out; have := HS.out; unfold ng at this; simp at this; omega, rfl⟩, fun h => absurd HLE.out (by omega)⟩, HBW.out⟩
end Go.Proofs.Tb
