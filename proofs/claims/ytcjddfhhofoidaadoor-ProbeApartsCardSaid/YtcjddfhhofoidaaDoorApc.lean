/- Contracts of probe.Apart and of the reference's Needed. -/
import Derived.Test.YtcjddfhhofoidaaDoorApb
import Derived.Test.YtcjddfhhofoidaaDoorNed
import Derived.Test.YtcjddfhhofoidaaDoorRc
set_option linter.unusedVariables false
set_option linter.unusedSimpArgs false
namespace Go.Proofs.Tb
open Go.RowKit
attribute [local go_sem] cell_set_same

def ApR (ws : List Int) (ts : List Tt) (v : Value) (w' : World) : Prop :=
  (Cv ws ts → ∃ A c b b1, v = .tuple #[.slice A (clsT ws.length ts).length c, .int .i64 0] ∧ OwS b b1 w' (.slice A (clsT ws.length ts).length c) (clsT ws.length ts)) ∧ (¬ Cv ws ts → v = .tuple #[.slice none 0 0, .int .i64 1])
set_option maxRecDepth 100000 in
theorem rapartX_any (A A' : Option Addr) (n c m d : Nat) (ws : List Int) (ts : List Tt) (w : World) (h : Il w A n c ws) (h' : Ts w A' m d ts) :
    Calls Tryd.prog 43 #[.slice A n c, .slice A' m d] w (Ret (ApR ws ts) w) := by
  have HL := Lib.hid h.len
  have HL' := Lib.hid h'.len
  have H := Lib.hid h
  have H' := Lib.hid h'
  clear h h'
  go_enter Tryd.func43, Tryd.ntmps43
  go_wp2_with fail
  refine (rcheck_any A A' n c m d ws ts w H.out H'.out).mono ?_
  rintro e w1 ⟨v1, rfl, hv1, hb1⟩
  have HB1 := Lib.hid hb1
  by_cases hcv : Cv ws ts
  rotate_left
  · rw [hv1.2 hcv]
    have HE := Lib.hid (show ApR ws ts (.tuple #[.slice none 0 0, .int .i64 1]) w1 from ⟨fun h => absurd h hcv, fun _ => rfl⟩)
    clear hv1 hcv hb1
    go_wp2
    go_returns
    exact ⟨_, rfl, HE.out, HB1.out⟩
  rw [hv1.1 hcv]
  have hn10 : n ≤ 10 := by rw [← HL.out]; exact hcv.len10
  have hm16 : m ≤ 16 := by rw [← HL'.out]; exact hcv.1.2.2
  have HV := Lib.hid hcv
  clear hv1 hcv hb1
  go_wp2_with fail
  refine (rapart_any A' n m d ts w1 (H'.out.below HB1.out) (by omega) hm16).mono ?_
  rintro e w2 ⟨v2, rfl, ⟨b, b1, hs2⟩, hb2⟩
  obtain ⟨A2, c2, rfl, _⟩ := hs2.gs
  rw [← HL.out] at hs2 ⊢
  have HE := Lib.hid (show ApR ws ts (.tuple #[.slice A2 (clsT ws.length ts).length c2, .int .i64 0]) w2 from ⟨fun _ => ⟨_, _, _, _, rfl, hs2⟩, fun h => absurd HV.out h⟩)
  have HB2 := Lib.hid (bt HB1.out hb2)
  clear hs2 hb2
  go_wp2
  go_returns
  exact ⟨_, rfl, HE.out, HB2.out⟩
def NdK (ts : List Tt) (n k b : Nat) : Prop := b < 2 ^ ts.length ∧ okS ts n b ∧ ∀ s, s < k → okS ts n s → ltB (ky ts (mems ts.length s)) (ky ts (mems ts.length b)) = false
theorem NdK.skip {ts : List Tt} {n k b : Nat} (h : NdK ts n k b) (hk : okS ts n k → ltB (ky ts (mems ts.length k)) (ky ts (mems ts.length b)) = false) : NdK ts n (k + 1) b :=
  ⟨h.1, h.2.1, fun s hs ho => by
    rcases Nat.lt_or_eq_of_le (Nat.le_of_lt_succ hs) with h1 | rfl
    · exact h.2.2 s h1 ho
    · exact hk ho⟩
theorem NdK.take {ts : List Tt} {n k b : Nat} (h : NdK ts n k b) (hk : k < 2 ^ ts.length) (ho : okS ts n k) (hlt : ltB (ky ts (mems ts.length k)) (ky ts (mems ts.length b)) = true) : NdK ts n (k + 1) k :=
  ⟨hk, ho, fun s hs ho' => by
    rcases Nat.lt_or_eq_of_le (Nat.le_of_lt_succ hs) with h1 | rfl
    · have h2 := h.2.2 s h1 ho'
      cases h3 : ltB (ky ts (mems ts.length s)) (ky ts (mems ts.length k)) with
      | false => rfl
      | true => rw [ltB_trans h3 hlt] at h2; cases h2
    · exact ltB_irr _⟩
theorem NdK.nd {ts : List Tt} {n b : Nat} (hm : ts.length ≤ 16) (h : NdK ts n (2 ^ ts.length) b) : mems ts.length b = mems ts.length (ndS ts n) := by
  obtain ⟨_, h1, h2, h3⟩ := nd_ok (ts := ts) (n := n) hm
  rcases ltB_tri (ky ts (mems ts.length b)) (ky ts (mems ts.length (ndS ts n))) with h4 | h4 | h4
  · rw [h3 b h.1 h.2.1] at h4; cases h4
  · unfold ky at h4
    injection h4 with _ h4
    injection h4 with _ h4
  · rw [h.2.2 _ h1 h2] at h4; cases h4
theorem mems_succ (j s : Nat) : mems (j + 1) s = mems j s ++ if s.testBit j then [(j : Int)] else [] := by
  unfold mems memN
  rw [List.range_succ, List.filter_append, List.map_append]
  congr 1
  simp only [List.filter_cons, List.filter_nil]
  split <;> rfl
theorem mems_rng' (m s : Nat) : ∀ j, j < (mems m s).length → 0 ≤ (mems m s).getD j 0 ∧ (mems m s).getD j 0 < (m : Int) := fun j hj => (mems_ris m s).bd j hj
set_option maxHeartbeats 6400000 in
set_option maxRecDepth 100000 in
theorem zneeded_any (A A' : Option Addr) (n c m d : Nat) (ws : List Int) (ts : List Tt) (w : World) (h : Il w A n c ws) (h' : Ts w A' m d ts) (ht : ∀ j, 0 ≤ tC ts j ∧ tC ts j ≤ 1000) (hm16 : m ≤ 16) :
    Calls Tryd.prog 44 #[.slice A n c, .slice A' m d] w (Ret (fun v w' => ∃ A5 n5 c5, v = .slice A5 n5 c5 ∧ Il w' A5 n5 c5 (mems m (ndS ts n))) w) := by
  have l2 := h'.le
  have l2' := h'.cap
  have HL' := Lib.hid h'.len
  have H := Lib.hid h
  have H' := Lib.hid h'
  have HT := Lib.hid ht
  clear h h' ht
  go_enter Tryd.func44, Tryd.ntmps44
  go_wp2_with fail
  refine (znumbers_any A' m d ts w H'.out (by omega)).mono ?_
  rintro e w1 ⟨v1, rfl, ho1, hb1⟩
  obtain ⟨A1, n1, c1, hv1, _⟩ := ho1.il3
  subst hv1
  have hil := ho1.ilv
  rw [upL_mems] at hil
  have hx1 : Ext w w1 := hb1
  obtain ⟨N, hN⟩ : ∃ N : Nat, 2 ^ m = N := ⟨_, rfl⟩
  have hN1 : N ≤ 65536 := by rw [← hN]; exact Nat.pow_le_pow_right (n := 2) (by omega) hm16
  have hN0 : 0 < N := by rw [← hN]; exact Nat.two_pow_pos m
  have wN := wrap_pow m N hN (by omega)
  have HN := Lib.hid hN
  have H0 := Lib.hid (show Il w1 A1 n1 c1 (mems m (N - 1)) ∧ NdK ts n 0 (N - 1) ∧ Ext w w1 from ⟨by rw [← hN]; exact hil, ⟨by rw [HL'.out, hN]; omega, by rw [← hN, ← HL'.out]; exact okS_full ts n, fun s hs => absurd hs (by omega)⟩, hx1⟩)
  clear ho1 hil hb1 hx1 hN
  go_wp2_with fail
  go_loopw [5, 6] (fun v i wr => ∃ (k b : Nat) (A5 : Option Addr) (n5 c5 : Nat), k ≤ N ∧ i = .int .i64 (k : Int) ∧ v = .slice A5 n5 c5 ∧ Il wr A5 n5 c5 (mems m b) ∧ NdK ts n k b ∧ Ext w wr) (fun _ i _ => N - (intOf i).toNat)
  case atStart => exact ⟨0, _, _, _, _, by omega, rfl, rfl, H0.out⟩
  case round =>
    clear H0
    obtain ⟨k, b, A5, n5, c5, hk, rfl, rfl, hil, hnd, hx⟩ := hrel
    have HI := Lib.hid hil
    have HND := Lib.hid hnd
    have HX := Lib.hid hx
    have g5 := hil.le
    have g5' := hil.cap
    have hn5 : n5 ≤ 16 := by rw [← hil.len]; exact Nat.le_trans (mems_len m b) hm16
    clear hil hnd hx
    by_cases hkN : k < N
    · have pk : (k : Int) < (N : Int) := by omega
      obtain ⟨wo, rfl⟩ : ∃ wo, wo = wr := ⟨_, rfl⟩
      have E0 := Lib.hid (show OwI wo.heap.size (wo.alloc (.cells #[] TIN)) (.slice (some ⟨wo.heap.size, 0, none⟩) 0 0) (mems 0 k) from OwI.lit0 (Nat.le_refl _))
      go_wp2_with fail
      rw [wN]
      go_loopw [7, 8] (fun s i wr => ∃ (j : Nat) (A7 : Option Addr) (n7 c7 : Nat), j ≤ m ∧ i = .int .i64 (j : Int) ∧ s = .slice A7 n7 c7 ∧ OwI wo.heap.size wr (.slice A7 n7 c7) (mems j k) ∧ Ext wo wr) (fun _ i _ => m - (intOf i).toNat)
      case atStart => exact ⟨0, _, _, _, by omega, rfl, rfl, E0.out, Ext.allocR _ _⟩
      case round =>
        clear E0
        obtain ⟨j, A7, n7, c7, hj, rfl, rfl, ho, hx⟩ := hrel
        have HO := Lib.hid ho
        have HX2 := Lib.hid hx
        by_cases hjm : j < m
        · have pj : (j : Int) < (m : Int) := by omega
          have hsu := mems_succ j k
          have hbit := i64_bit k j (by omega)
          have HLN := Lib.hid (mems_len j k)
          have hsz : wo.heap.size ≤ (wr.alloc (.cells #[.int .i64 (j : Int)] TIN)).heap.size := Ext.size (bt hx (Ext.allocR _ _))
          clear ho hx
          cases hb : k.testBit j with
          | true =>
            rw [hb] at hsu hbit
            have hbit1 : bits .and .i64 ((k : Int) / 2 ^ j) 1 = 1 := hbit
            have HSU := Lib.hid (show mems (j + 1) k = mems j k ++ [(j : Int)] from hsu)
            clear hsu hbit hb
            go_wp2_with (at_builtin; refine wp_appE TIS TIN _ 1 8 int_info Tryd.underlying37 rfl (by omega) (by omega) rfl _ _ rfl wo.heap.size (.slice A7 n7 c7) _ _ rfl (HO.out.alloc _) ⟨wr.heap.size, 0, none⟩ 1 1 [.int .i64 (j : Int)] rfl rfl (cell_new wr [.int .i64 (j : Int)] TIN) (int_one _) (by have := HLN.out; omega) (by omega) hsz ?_; intro v6 w6 hown6 hb6 hg6; have hn6 : OwI wo.heap.size w6 v6 (mems (j + 1) k) := (by rw [HSU.out]; exact OwI.snoc hown6); obtain ⟨A8, n8, c8, hv8, _⟩ := hn6.il3; subst hv8; have HE := Lib.hid (And.intro hn6 (show Ext wo w6 from Below.trans (bt HX2.out (Ext.allocR wr (.cells #[.int .i64 (j : Int)] TIN))) hb6)); clear hn6 hown6 hb6 hg6)
            go_roundw
            case rel => exact ⟨j + 1, _, _, _, by omega, by go_num, rfl, HE.out.1, HE.out.2⟩
            case measure => simp [intOf]; omega
          | false =>
            rw [hb] at hsu hbit
            have hbit1 : bits .and .i64 ((k : Int) / 2 ^ j) 1 = 0 := hbit
            have HSU := Lib.hid (show mems (j + 1) k = mems j k by rw [hsu]; exact List.append_nil _)
            clear hsu hbit hb
            go_wp2
            go_roundw
            case rel => exact ⟨j + 1, _, _, _, by omega, by go_num, rfl, by rw [HSU.out]; exact HO.out, HX2.out⟩
            case measure => simp [intOf]; omega
        · obtain rfl : j = m := by omega
          have I7 := Lib.hid ho.ilv
          have hn7 : n7 ≤ 16 := by rw [← ho.ilv.len]; exact Nat.le_trans (mems_len j k) hm16
          have HR7 := Lib.hid (show ∀ i, i < n7 → 0 ≤ (mems j k).getD i 0 ∧ (mems j k).getD i 0 < (j : Int) from fun i hi => mems_rng' j k i (by rw [ho.ilv.len]; exact hi))
          have HR5 := Lib.hid (show ∀ i, i < n5 → 0 ≤ (mems j b).getD i 0 ∧ (mems j b).getD i 0 < (j : Int) from fun i hi => mems_rng' j b i (by rw [HI.out.len]; exact hi))
          have XW := Lib.hid (bt HX.out hx)
          have I5 := Lib.hid (HI.out.below hx)
          clear ho hx
          go_wp2_with fail
          refine (zenough_any A A' A7 n c j d n7 c7 ws ts (mems j k) wr (H.out.below XW.out) (H'.out.below XW.out) I7.out HR7.out (by omega)).mono ?_
          rintro e w3 ⟨v3, rfl, rfl, hb3⟩
          have X3 := Lib.hid (bt XW.out hb3)
          have I73 := Lib.hid (I7.out.below hb3)
          have I53 := Lib.hid (I5.out.below hb3)
          clear hb3
          have hok : EnP n ts (mems j k) ↔ okS ts n k := by rw [← HL'.out]; exact en_ok
          by_cases hen : EnP n ts (mems j k)
          rotate_left
          · rw [enB_f hen]
            have HNN := Lib.hid (HND.out.skip (fun h => absurd (hok.2 h) hen))
            clear hen hok
            go_wp2
            go_roundw
            case rel => exact ⟨k + 1, _, _, _, _, by omega, by go_num, rfl, I53.out, HNN.out, X3.out⟩
            case measure => simp [intOf]; omega
          · rw [enB_t hen]
            have HOK := Lib.hid (hok.1 hen)
            clear hen hok
            go_wp2_with fail
            refine (zfirst_any A' A7 A5 j d n7 c7 n5 c5 ts (mems j k) (mems j b) w3 (H'.out.below X3.out) I73.out I53.out HR7.out HR5.out HT.out (by omega) (by omega)).mono ?_
            rintro e w4 ⟨v4, rfl, rfl, hb4⟩
            have X4 := Lib.hid (bt X3.out hb4)
            have I74 := Lib.hid (I73.out.below hb4)
            have I54 := Lib.hid (I53.out.below hb4)
            clear hb4
            cases hlt : ltB (ky ts (mems j k)) (ky ts (mems j b)) with
            | true =>
              have HNN := Lib.hid (HND.out.take (by rw [HL'.out, HN.out]; exact hkN) HOK.out (by rw [HL'.out]; exact hlt))
              clear hlt
              go_wp2
              go_roundw
              case rel => exact ⟨k + 1, _, _, _, _, by omega, by go_num, rfl, I74.out, HNN.out, X4.out⟩
              case measure => simp [intOf]; omega
            | false =>
              have HNN := Lib.hid (HND.out.skip (fun _ => by rw [HL'.out]; exact hlt))
              clear hlt
              go_wp2
              go_roundw
              case rel => exact ⟨k + 1, _, _, _, _, by omega, by go_num, rfl, I54.out, HNN.out, X4.out⟩
              case measure => simp [intOf]; omega
    · obtain rfl : k = N := by omega
      have hu := NdK.nd (by rw [HL'.out]; exact hm16) (show NdK ts n (2 ^ ts.length) b by rw [HL'.out, HN.out]; exact HND.out)
      rw [HL'.out] at hu
      have HU := Lib.hid (show Il wr A5 n5 c5 (mems m (ndS ts n)) by rw [← hu]; exact HI.out)
      clear hu
      go_wp2
      go_returns
      exact ⟨_, rfl, ⟨_, _, _, rfl, HU.out⟩, HX.out⟩
end Go.Proofs.Tb
