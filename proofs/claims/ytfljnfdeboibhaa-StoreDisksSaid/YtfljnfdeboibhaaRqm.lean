/- The reference's disk: Restart. -/
import Derived.Test.YtfljnfdeboibhaaRql
import Derived.Test.YtfljnfdeboibhaaRqj
set_option linter.unusedVariables false
set_option linter.unusedSimpArgs false
namespace Go.Proofs.Tb
open Go.Maps Go.RowKit Go.Lib
attribute [local go_sem] cell_set_same neqMapL

set_option maxHeartbeats 3200000 in
set_option maxRecDepth 100000 in
theorem zrestart_ok {w : World} {v : Value} {bl : List (List (List Nat))} {down : Bool} {left : Nat} (h : RdV w v bl down left) (hb : bl.length ≤ 1000) (hne : ∀ k, k < bl.length → bl.getD k [] ≠ []) (hfew : ∀ k, (bl.getD k []).length ≤ 1000000)
    (A2 : Option Addr) (n2 c2 : Nat) (ks : List Nat) (hr : Rv w 1 A2 n2 c2 (bc ks)) (hks : ∀ b ∈ ks, b < 256) (hkl : ks.length ≤ 1000) :
    Calls Try.prog 40 #[v, .slice A2 n2 c2] w (Ret (fun z w' => RdV w' z (onesB (resC bl ks)) false 0) w) := by
  obtain ⟨A, n, c, a, lf, rfl, ho, h3⟩ := h
  obtain ⟨hn, hle, hcp⟩ := ho.len
  have hk2 : ks.length = n2 := by
    have := hr.len
    unfold bc at this
    rw [List.length_map] at this
    omega
  have hle2 := hr.le
  have hcp2 := hr.cap
  have HO := Lib.hid ho
  have HN := Lib.hid hn
  have HNE := Lib.hid hne
  have HFEW := Lib.hid hfew
  have HR2 := Lib.hid hr
  have HKS := Lib.hid hks
  have HK2 := Lib.hid hk2
  have hn2 : n ≤ 1000 := by omega
  have hn3 : n2 ≤ 1000 := by omega
  clear ho hn hb h3 hne hfew hr hks hk2 hkl
  unfold rdk
  go_enter Try.func40, Try.ntmps40
  go_upto_region 1 with fail
  obtain ⟨H, hH⟩ : ∃ H, w.heap.size = H := ⟨_, rfl⟩
  refine wp_world (fun W => SD w H #[.slice A n c, .bool down, .bool a, .int .i64 lf] W ∧ Blk W (H + 1) TRD #[.slice none 0 0, .bool false, .bool false, .int .i64 0]) ⟨⟨bt (Ext.allocR _ _) (Ext.allocR _ _), (Blk.new_ _ _ hH).alloc _⟩, Blk.new_ _ _ (by simp [hH])⟩ ?_
  rw [hH]
  rintro W2 ⟨hsd, hbr⟩
  have hHw : w.heap.size ≤ H := Nat.le_of_eq hH
  have hHw2 : w.heap.size ≤ H + 1 := by omega
  have hs0 := Ext.size hsd.1
  have n0 : NxW W2.heap.size w (W2.alloc (.cells #[] TSL)) H (H + 1) #[.slice A n c, .bool down, .bool a, .int .i64 lf] #[.slice none 0 0, .bool false, .bool false, .int .i64 0] (.slice (some ⟨W2.heap.size, 0, none⟩) 0 0) (onesB ((resC bl ks).take 0)) := ⟨bt hsd.1 (Ext.allocR _ _), hsd.2.alloc _, hbr.alloc _, OwTe.nil _ _ (Nat.le_refl _), by simp, hs0⟩
  have N0 := Lib.hid n0
  obtain ⟨G, hG⟩ : ∃ G, W2.heap.size = G := ⟨_, rfl⟩
  obtain ⟨W3, hW3⟩ : ∃ W3, W2.alloc (.cells #[] TSL) = W3 := ⟨_, rfl⟩
  rw [hG, hW3] at N0
  clear n0 hs0 hsd hbr hH
  go_wp2_with fail
  (try rw [hW3])
  clear hG hW3
  go_loopw [5, 6, 7] (fun v k i wr => ∃ (j : Nat) (A5 : Option Addr) (c5 : Nat), j ≤ n ∧ i = .int .i64 (j : Int) ∧ k = .int .i64 (looL (bl.take j) : Int) ∧ v = .slice A5 j c5 ∧ NxW G w wr H (H + 1) #[.slice A n c, .bool down, .bool a, .int .i64 lf] #[.slice none 0 0, .bool false, .bool false, .int .i64 0] (.slice A5 j c5) (onesB ((resC bl ks).take j))) (fun _ _ i _ => n - (intOf i).toNat)
  case atStart => exact ⟨0, _, 0, by omega, rfl, rfl, rfl, N0.out⟩
  case round =>
    clear N0
    obtain ⟨j, A5, c5, hj, rfl, rfl, rfl, hz⟩ := hrel
    have kb := hz.bd.cells
    simp only [cellsAre, Nat.zero_add, Nat.reduceAdd, and_true] at kb
    obtain ⟨W4, rfl⟩ : ∃ W4, W4 = wr := ⟨_, rfl⟩
    have HZ := Lib.hid hz
    clear hz
    by_cases hjn : j < n
    · have pj : (j : Int) < (n : Int) := by omega
      have hjl : j < bl.length := by rw [← HN.out]; exact hjn
      have hne := HNE.out j hjl
      have hll := HFEW.out j
      have hgl := resC_at ks hjl
      have hsn := onesB_snoc (X := resC bl ks) (j := j) (by rw [resC_len]; exact hjl)
      rw [hgl] at hsn
      have hcn := looL_take hjl
      obtain ⟨q, hq⟩ : ∃ q, looL (bl.take j) = q := ⟨_, rfl⟩
      have hq6 : q ≤ 1000 := by
        rw [← hq]
        exact Nat.le_trans (looL_le _) (by rw [List.length_take]; omega)
      rw [hq] at hsn hcn ⊢
      obtain ⟨b, o, Az, cz, rfl, kz0, rz⟩ := (HO.out.ext HZ.out.ex).at_ hjl
      unfold pickB at hsn
      obtain ⟨l, hl⟩ : ∃ l, bl.getD j [] = l := ⟨_, rfl⟩
      rw [hl] at kz0 rz hne hll hsn hcn
      obtain ⟨m, hm⟩ : ∃ m, l.length = m := ⟨_, rfl⟩
      rw [hm] at kz0 rz hll hsn hcn
      have hm0 : 0 < m := by rw [← hm]; exact List.length_pos_iff.2 hne
      obtain ⟨bz, oz, rfl, hc⟩ := rz.at_ (by omega)
      have kp : ∀ p, p < m → W4.cell? ⟨bz, oz + p, none⟩ = some (.string (sb (l.getD p z64))) := fun p hp => hc p _ (by
        unfold sc
        rw [List.getElem?_map, List.getD_eq_getElem?_getD, List.getElem?_eq_getElem (by omega)]
        rfl)
      have hzle := rz.le
      have hzcp := rz.cap
      have KP := Lib.hid kp
      have HSN := Lib.hid hsn
      have HCN := Lib.hid hcn
      have wj : IntKind.i64.wrap ((j : Int) + 1) = ((j + 1 : Nat) : Int) := by rw [IntWalk.i64_in _ (by omega)]; rfl
      have wq : IntKind.i64.wrap ((q : Int) + 1) = ((q + 1 : Nat) : Int) := by rw [IntWalk.i64_in _ (by omega)]; rfl
      clear hne hl hm rz hc hsn hjl hgl hcn hq kp
      by_cases h2 : 2 ≤ m
      · have p2 : (1 : Int) < (m : Int) := by omega
        by_cases hqk : q < n2
        · have pq : (q : Int) < (n2 : Int) := by omega
          have hql : q < ks.length := by rw [HK2.out]; exact hqk
          obtain ⟨bk, ok, rfl, hck⟩ := (HR2.out.below HZ.out.ex).at_ (by omega)
          have kk := hck q (.int .u8 (((ks[q] : Nat)) : Int)) (by unfold bc; simp [hql])
          have hk8 : ks[q] < 256 := HKS.out _ (List.getElem_mem hql)
          have hsn := HSN.out
          have hgq : ks.getD q 0 = ks[q] := by rw [List.getD_eq_getElem?_getD, List.getElem?_eq_getElem hql]; rfl
          rw [if_pos h2, if_pos hql, hgq] at hsn
          obtain ⟨y, hy⟩ : ∃ y : Nat, ks[q] = y := ⟨_, rfl⟩
          rw [hy] at kk hk8 hsn
          clear hgq hy hql hck
          have hpm : y % m < m := Nat.mod_lt _ hm0
          obtain ⟨p, hp⟩ : ∃ p, y % m = p := ⟨_, rfl⟩
          have hrem : ((y : Nat) : Int) % (m : Int) = (p : Int) := by rw [← hp]; rfl
          rw [hp] at hpm hsn
          have kx := KP.out p hpm
          clear hp
          obtain ⟨lx, hlx⟩ : ∃ lx, l.getD p z64 = lx := ⟨_, rfl⟩
          obtain ⟨x, hx⟩ : ∃ x, sb lx = x := ⟨_, rfl⟩
          rw [hlx] at hsn kx
          rw [hx] at kx
          obtain ⟨zs, p1, p2_, p3, p4⟩ := HZ.out.app lx (by rw [onesB_len, List.length_take, resC_len, ← HN.out]; omega)
          rw [hx] at p1 p2_ p3 p4
          have HP := Lib.hid (And.intro p1 (And.intro p2_ (And.intro p3 p4)))
          have HSX := Lib.hid hsn
          clear p1 p2_ p3 p4 hsn hlx hx
          go_wp2_with (at_builtin; refine wpl_appR TSV TSL (.slice none 0 0) 1 24 sli_info Try.underlying73 rfl (by omega) (by omega) rfl _ _ rfl G (.slice A5 j c5) j zs rfl HP.out.1 (some ⟨W4.heap.size + 1, 0, none⟩) 1 1 [.slice (some ⟨W4.heap.size, 0, none⟩) 1 1] rfl HP.out.2.1 (slc_one1 _ _ _) (by omega) (by omega) HP.out.2.2.1 ?_; intro v6 w6 o6 g6 b6; obtain ⟨A6, c6, rfl, n6⟩ := HP.out.2.2.2 _ _ o6 g6 b6; rw [← HSX.out] at n6; have N6 := Lib.hid n6; clear o6 g6 b6 n6)
          exact ⟨⟨j + 1, A6, c6, by omega, by go_num, by rw [HCN.out, if_pos h2]; go_num, rfl, N6.out⟩, by simp [intOf]; omega⟩
        · have pq : ¬ (q : Int) < (n2 : Int) := by omega
          have hsn := HSN.out
          rw [if_pos h2, if_neg (by rw [HK2.out]; exact hqk)] at hsn
          have kx := KP.out 0 hm0
          rw [Nat.add_zero] at kx
          obtain ⟨lx, hlx⟩ : ∃ lx, l.getD 0 z64 = lx := ⟨_, rfl⟩
          obtain ⟨x, hx⟩ : ∃ x, sb lx = x := ⟨_, rfl⟩
          rw [hlx] at hsn kx
          rw [hx] at kx
          obtain ⟨zs, p1, p2_, p3, p4⟩ := HZ.out.app lx (by rw [onesB_len, List.length_take, resC_len, ← HN.out]; omega)
          rw [hx] at p1 p2_ p3 p4
          have HP := Lib.hid (And.intro p1 (And.intro p2_ (And.intro p3 p4)))
          have HSX := Lib.hid hsn
          clear p1 p2_ p3 p4 hsn hlx hx
          go_wp2_with (at_builtin; refine wpl_appR TSV TSL (.slice none 0 0) 1 24 sli_info Try.underlying73 rfl (by omega) (by omega) rfl _ _ rfl G (.slice A5 j c5) j zs rfl HP.out.1 (some ⟨W4.heap.size + 1, 0, none⟩) 1 1 [.slice (some ⟨W4.heap.size, 0, none⟩) 1 1] rfl HP.out.2.1 (slc_one1 _ _ _) (by omega) (by omega) HP.out.2.2.1 ?_; intro v6 w6 o6 g6 b6; obtain ⟨A6, c6, rfl, n6⟩ := HP.out.2.2.2 _ _ o6 g6 b6; rw [← HSX.out] at n6; have N6 := Lib.hid n6; clear o6 g6 b6 n6)
          exact ⟨⟨j + 1, A6, c6, by omega, by go_num, by rw [HCN.out, if_pos h2]; go_num, rfl, N6.out⟩, by simp [intOf]; omega⟩
      · have p2 : ¬ (1 : Int) < (m : Int) := by omega
        have hsn := HSN.out
        rw [if_neg h2] at hsn
        have kx := KP.out 0 hm0
        rw [Nat.add_zero] at kx
        obtain ⟨lx, hlx⟩ : ∃ lx, l.getD 0 z64 = lx := ⟨_, rfl⟩
        obtain ⟨x, hx⟩ : ∃ x, sb lx = x := ⟨_, rfl⟩
        rw [hlx] at hsn kx
        rw [hx] at kx
        obtain ⟨zs, p1, p2_, p3, p4⟩ := HZ.out.app lx (by rw [onesB_len, List.length_take, resC_len, ← HN.out]; omega)
        rw [hx] at p1 p2_ p3 p4
        have HP := Lib.hid (And.intro p1 (And.intro p2_ (And.intro p3 p4)))
        have HSX := Lib.hid hsn
        clear p1 p2_ p3 p4 hsn hlx hx
        go_wp2_with (at_builtin; refine wpl_appR TSV TSL (.slice none 0 0) 1 24 sli_info Try.underlying73 rfl (by omega) (by omega) rfl _ _ rfl G (.slice A5 j c5) j zs rfl HP.out.1 (some ⟨W4.heap.size + 1, 0, none⟩) 1 1 [.slice (some ⟨W4.heap.size, 0, none⟩) 1 1] rfl HP.out.2.1 (slc_one1 _ _ _) (by omega) (by omega) HP.out.2.2.1 ?_; intro v6 w6 o6 g6 b6; obtain ⟨A6, c6, rfl, n6⟩ := HP.out.2.2.2 _ _ o6 g6 b6; rw [← HSX.out] at n6; have N6 := Lib.hid n6; clear o6 g6 b6 n6)
        exact ⟨⟨j + 1, A6, c6, by omega, by go_num, by rw [HCN.out, if_neg h2, Nat.add_zero], rfl, N6.out⟩, by simp [intOf]; omega⟩
    · obtain rfl : j = n := by omega
      have kr := HZ.out.br.cells
      have kf := HZ.out.br.free
      simp only [cellsAre, Nat.zero_add, Nat.reduceAdd, and_true] at kr
      have htk : onesB ((resC bl ks).take j) = onesB (resC bl ks) := by rw [List.take_of_length_le (by rw [resC_len, ← HN.out]; exact Nat.le_refl _)]
      have HTK := Lib.hid htk
      clear htk
      go_wp2_with fail
      (try simp only [Exit.inBlock, Exit.then])
      refine bodyPost_ret (v := (.agg #[.slice A5 j c5, .bool false, .bool false, .int .i64 0])) (by simp [results, Try.results40, go_sem, *]) rfl ?_
      have hn := HZ.out
      have E9 := (((hn.ex.setCell (p := ⟨H + 1, 0, none⟩) hHw2 (.slice A5 j c5)).setCell (p := ⟨H + 1, 1, none⟩) hHw2 (.bool false)).setCell (p := ⟨H + 1, 2, none⟩) hHw2 (.bool false)).setCell (p := ⟨H + 1, 3, none⟩) hHw2 (.int .i64 0)
      have r2 := hn.br.set_ 0 (.slice A5 j c5)
      have r3 := r2.set_ 1 (.bool false)
      have r4 := r3.set_ 2 (.bool false)
      have d5 := (((hn.ow.td.setD hn.br 0 (.slice A5 j c5)).setD r2 1 (.bool false)).setD r3 2 (.bool false)).setD r4 3 (.int .i64 0)
      rw [HTK.out] at d5
      exact ⟨_, rfl, ⟨A5, j, c5, false, 0, rfl, d5, fun _ => ⟨rfl, fun h => absurd h (by omega)⟩⟩, E9⟩
end Go.Proofs.Tb
