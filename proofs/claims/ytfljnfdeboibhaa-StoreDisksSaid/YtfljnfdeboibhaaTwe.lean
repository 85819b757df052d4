/- The law's batch. (With what follows it, in one text.) -/
import Derived.Test.YtfljnfdeboibhaaTwd
set_option linter.unusedVariables false
set_option linter.unusedSimpArgs false
/- The law's batch. -/
namespace Go.Proofs.Tb
open Go.Maps Go.RowKit Go.Lib
attribute [local go_sem] cell_set_same neqMapL

/-- Changes with strings that are not much too long. -/
def Cut (cs : List Cg) : Prop := ∀ c ∈ cs, c.k.size ≤ 13 ∧ c.v.size ≤ 25
theorem rv_take {w : World} {k n c : Nat} {A : Option Addr} {xs : List Value} (h : Rv w k A n c xs) {n' : Nat} (hn : n' ≤ n) : Rv w k A n' c (xs.take (n' * k)) := by
  have hm : n' * k ≤ n * k := Nat.mul_le_mul_right k hn
  refine ⟨by rw [List.length_take, h.len]; omega, Nat.le_trans hn h.le, h.cap, fun h0 => ?_⟩
  obtain ⟨b, o, e, hc⟩ := h.at_ (by omega)
  refine ⟨b, o, e, fun j u hj => hc j u ?_⟩
  rw [List.getElem?_take] at hj
  split at hj
  · exact hj
  · cases hj
theorem ccs_take (cs : List Cg) : ∀ n, (ccs cs).take (n * 3) = ccs (cs.take n) := by
  induction cs with
  | nil => intro n; simp [ccs]
  | cons c cs ih =>
    intro n
    cases n with
    | zero => simp [ccs]
    | succ n =>
      have e : ccs (c :: cs) = [Value.string c.k, .string c.v, .bool c.gone] ++ ccs cs := rfl
      rw [e, List.take_succ_cons, show ccs (c :: cs.take n) = [Value.string c.k, .string c.v, .bool c.gone] ++ ccs (cs.take n) from rfl, ← ih n, Nat.add_mul, Nat.one_mul, List.take_append]
      simp [List.take_of_length_le]
/-- Where batch's loop stands. -/
structure BaS (w W : World) (A5 : Option Addr) (j c5 : Nat) (o : List Cg) : Prop where
  ow : OwC w.heap.size W (.slice A5 j c5) o
  ln : o.length = j
  cu : Cut o
  ex : Ext w W
set_option maxHeartbeats 6400000 in
set_option maxRecDepth 100000 in
theorem rbat_any (A : Option Addr) (n c : Nat) (cs : List Cg) (most : Nat) (w : World) (h : Rv w 3 A n c (ccs cs)) (hs : ∀ x ∈ cs, x.k.size ≤ 9223372036854775807 ∧ x.v.size ≤ 9223372036854775807) (hm : most ≤ 1000) :
    Calls Try.prog 12 #[.slice A n c, .int .i64 (most : Int)] w (Ret (fun z w' => ∃ o, OwC w.heap.size w' z o ∧ o.length ≤ 17 ∧ Cut o) w) := by
  have hle := h.le
  have hcp := h.cap
  by_cases hn : n ≤ 16
  · have pn : (n : Int) ≤ 16 := by omega
    obtain ⟨n', hn'⟩ : ∃ n', (min (n : Int) (most : Int)).toNat = n' := ⟨_, rfl⟩
    have hr := rv_take h (n' := n') (by omega)
    rw [ccs_take] at hr
    have HR := Lib.hid hr
    have HS := Lib.hid (show ∀ x ∈ cs.take n', x.k.size ≤ 9223372036854775807 ∧ x.v.size ≤ 9223372036854775807 from fun x hx => hs x (List.mem_of_mem_take hx))
    have hle' : n' ≤ c := by omega
    have q1 : 0 ≤ min (n : Int) (most : Int) := by omega
    have q2 : min (n : Int) (most : Int) ≤ (c : Int) := by omega
    obtain ⟨ds, hds⟩ : ∃ ds, cs.take n' = ds := ⟨_, rfl⟩
    rw [hds] at HR HS
    have HNP := Lib.hid hn'
    clear h hs hr hn' hds
    go_enter Try.func12, Try.ntmps12
    go_upto_region 3 with fail
    rw [HNP.out]
    clear HNP q1 q2 pn
    have hlen : ds.length = n' := by have := HR.out.len; rw [ccs_len] at this; omega
    go_upto_region 4 with fail
    refine wp_world (fun W => BaS w W (some ⟨w.heap.size, 0, none⟩) 0 0 []) ⟨own_lit TCG 3 #[] 0 (Nat.le_refl _) (by omega) rfl, rfl, (fun x hx => absurd hx (by simp)), Ext.allocR _ _⟩ ?_
    rintro W0 hw0
    have HW0 := Lib.hid hw0
    clear hw0
    go_wp2_with fail
    go_loopw [5, 6] (fun v i wr => ∃ (j : Nat) (A5 : Option Addr) (c5 : Nat) (o : List Cg), j ≤ n' ∧ j ≤ 17 ∧ v = .slice A5 j c5 ∧ i = .int .i64 (j : Int) ∧ BaS w wr A5 j c5 o) (fun _ i _ => n' - (intOf i).toNat)
    case atStart => exact ⟨0, _, _, _, by omega, by omega, rfl, rfl, HW0.out⟩
    case round =>
      clear HW0
      obtain ⟨j, A5, c5, o, hj, hj17, rfl, rfl, hw⟩ := hrel
      have HW := Lib.hid hw
      clear hw
      by_cases hjn : j < n' ∧ j ≤ 16
      · have p1 : (j : Int) < (n' : Int) := by omega
        have p2 : (j : Int) ≤ 16 := by omega
        have hjl : j < ds.length := by omega
        obtain ⟨b, oo, rfl, hc⟩ := (HR.out.below HW.out.ex).at_ (by omega)
        obtain ⟨g1, g2, g3⟩ := ccs_at ds j hjl
        have k1 := hc _ _ g1
        have k2 := hc _ _ g2
        have k3 := hc _ _ g3
        obtain ⟨hk, hv⟩ := HS.out _ (List.getElem_mem hjl)
        obtain ⟨⟨xk, xv, xg⟩, hx⟩ : ∃ x, ds[j] = x := ⟨_, rfl⟩
        rw [hx] at k1 k2 k3 hk hv
        rw [← Nat.add_assoc] at k2 k3
        clear hc g1 g2 g3 hx
        go_upto_region 8 with fail
        refine wp_world (fun W => Ext wr W ∧ Blk W wr.heap.size TCG #[.string xk, .string xv, .bool xg]) ⟨Ext.allocR _ _, Blk.new_ _ _ rfl⟩ ?_
        rintro W1 ⟨hw1, hb1⟩
        obtain ⟨H, hH⟩ : ∃ H, wr.heap.size = H := ⟨_, rfl⟩
        rw [hH] at hb1 ⊢
        have hHw := Nat.le_of_eq hH
        have HW1 := Lib.hid hw1
        have HB1 := Lib.hid hb1
        have kb := hb1.cells
        simp only [cellsAre, Nat.zero_add, Nat.reduceAdd, and_true] at kb
        have fb := hb1.free
        clear hw1 hb1 hH k1 k2 k3
        go_region
        obtain ⟨yk, hyk⟩ : ∃ yk, ByteArray.extract xk 0 (min (ByteArray.size xk : Int) 13).toNat = yk := ⟨_, rfl⟩
        obtain ⟨yv, hyv⟩ : ∃ yv, ByteArray.extract xv 0 (min (ByteArray.size xv : Int) 25).toNat = yv := ⟨_, rfl⟩
        have sk : yk.size ≤ 13 := by rw [← hyk, ByteArray.size_extract]; omega
        have sv : yv.size ≤ 25 := by rw [← hyv, ByteArray.size_extract]; omega
        rw [hyk, hyv]
        have x2 : Ext wr ((W1.setCell ⟨H, 0, none⟩ (.string yk)).setCell ⟨H, 1, none⟩ (.string yv)).drew := bt ((HW1.out.setCell (p := ⟨H, 0, none⟩) hHw _).setCell (p := ⟨H, 1, none⟩) hHw _) (Ext.drew _)
        have b2 : Blk ((W1.setCell ⟨H, 0, none⟩ (.string yk)).setCell ⟨H, 1, none⟩ (.string yv)).drew H TCG #[.string yk, .string yv, .bool xg] := ((HB1.out.set_ 0 (.string yk)).set_ 1 (.string yv)).drew
        obtain ⟨w2, hw2⟩ : ∃ w2, ((W1.setCell ⟨H, 0, none⟩ (.string yk)).setCell ⟨H, 1, none⟩ (.string yv)).drew = w2 := ⟨_, rfl⟩
        rw [hw2] at x2 b2
        have k2 := b2.cells
        simp only [cellsAre, Nat.zero_add, Nat.reduceAdd, and_true] at k2
        have hr4 : Rv (w2.alloc (.cells #[.string yk, .string yv, .bool xg] TCG)) 3 (some ⟨w2.heap.size, 0, none⟩) 1 1 (ccs [⟨yk, yv, xg⟩]) := rv_lit TCG 3 #[.string yk, .string yv, .bool xg] 1 (by omega) rfl
        have x4 : Ext wr (w2.alloc (.cells #[.string yk, .string yv, .bool xg] TCG)) := bt x2 (Ext.allocR _ _)
        have HX4 := Lib.hid x4
        have HR4 := Lib.hid hr4
        have HO4 := Lib.hid (own_below HW.out.ow x4)
        have HS2 := Lib.hid (show Cut (o ++ [⟨yk, yv, xg⟩]) from fun x hx => by
          rcases List.mem_append.1 hx with hx | hx
          · exact HW.out.cu x hx
          · rw [List.mem_singleton.1 hx]; exact ⟨sk, sv⟩)
        have HOL := Lib.hid HW.out.ln
        have HSZ := Lib.hid HW.out.ex
        clear kb fb HW1 HB1 hHw hyk hyv x2 b2 hr4 x4 sk sv HW
        go_upto_region 6 with (at_builtin; refine wpl_appC rfl _ _ rfl w.heap.size (.slice A5 j c5) o rfl HO4.out (some ⟨w2.heap.size, 0, none⟩) 1 1 [⟨yk, yv, xg⟩] rfl HR4.out (by have := HOL.out; omega) (by omega) (Nat.le_trans HSZ.out.size HX4.out.size) ?_; intro A8 n8 c8 w8 o8 r8 b8 g8; have HAP := Lib.hid (show BaS w w8 A8 n8 c8 (o ++ [⟨yk, yv, xg⟩]) from ⟨o8, (by have := r8.len; rw [ccs_len] at this; omega), HS2.out, Below.trans (bt HSZ.out HX4.out) b8⟩); clear o8 r8 b8 g8)
        obtain rfl : n8 = j + 1 := by have := HAP.out.ln; have := HOL.out; rw [List.length_append, List.length_singleton] at *; omega
        clear HX4 HR4 HO4 HS2 HOL HSZ
        go_wp2_with fail
        exact ⟨⟨j + 1, A8, c8, _, by omega, by omega, rfl, by go_num, HAP.out⟩, by simp [intOf]; omega⟩
      · rcases Nat.lt_or_ge j n' with hlt | hge
        · have p1 : (j : Int) < (n' : Int) := by omega
          have p2 : ¬ (j : Int) ≤ 16 := by omega
          go_wp2
          go_returns
          exact ⟨_, rfl, ⟨o, HW.out.ow, by have := HW.out.ln; omega, HW.out.cu⟩, HW.out.ex⟩
        · have p1 : ¬ (j : Int) < (n' : Int) := by omega
          go_wp2
          go_returns
          exact ⟨_, rfl, ⟨o, HW.out.ow, by have := HW.out.ln; omega, HW.out.cu⟩, HW.out.ex⟩
  · have pn : ¬ (n : Int) ≤ 16 := by omega
    have HR := Lib.hid h
    have HS := Lib.hid hs
    obtain ⟨ds, hds⟩ : ∃ ds, cs = ds := ⟨_, rfl⟩
    rw [hds] at HR HS
    obtain ⟨n', hn'⟩ : ∃ n', n = n' := ⟨_, rfl⟩
    rw [hn'] at HR hle pn
    rw [hn']
    have hle' : n' ≤ c := by omega
    clear h hs hds hn'
    go_enter Try.func12, Try.ntmps12
    go_upto_region 3 with fail
    clear pn
    have hlen : ds.length = n' := by have := HR.out.len; rw [ccs_len] at this; omega
    go_upto_region 4 with fail
    refine wp_world (fun W => BaS w W (some ⟨w.heap.size, 0, none⟩) 0 0 []) ⟨own_lit TCG 3 #[] 0 (Nat.le_refl _) (by omega) rfl, rfl, (fun x hx => absurd hx (by simp)), Ext.allocR _ _⟩ ?_
    rintro W0 hw0
    have HW0 := Lib.hid hw0
    clear hw0
    go_wp2_with fail
    go_loopw [5, 6] (fun v i wr => ∃ (j : Nat) (A5 : Option Addr) (c5 : Nat) (o : List Cg), j ≤ n' ∧ j ≤ 17 ∧ v = .slice A5 j c5 ∧ i = .int .i64 (j : Int) ∧ BaS w wr A5 j c5 o) (fun _ i _ => n' - (intOf i).toNat)
    case atStart => exact ⟨0, _, _, _, by omega, by omega, rfl, rfl, HW0.out⟩
    case round =>
      clear HW0
      obtain ⟨j, A5, c5, o, hj, hj17, rfl, rfl, hw⟩ := hrel
      have HW := Lib.hid hw
      clear hw
      by_cases hjn : j < n' ∧ j ≤ 16
      · have p1 : (j : Int) < (n' : Int) := by omega
        have p2 : (j : Int) ≤ 16 := by omega
        have hjl : j < ds.length := by omega
        obtain ⟨b, oo, rfl, hc⟩ := (HR.out.below HW.out.ex).at_ (by omega)
        obtain ⟨g1, g2, g3⟩ := ccs_at ds j hjl
        have k1 := hc _ _ g1
        have k2 := hc _ _ g2
        have k3 := hc _ _ g3
        obtain ⟨hk, hv⟩ := HS.out _ (List.getElem_mem hjl)
        obtain ⟨⟨xk, xv, xg⟩, hx⟩ : ∃ x, ds[j] = x := ⟨_, rfl⟩
        rw [hx] at k1 k2 k3 hk hv
        rw [← Nat.add_assoc] at k2 k3
        clear hc g1 g2 g3 hx
        go_upto_region 8 with fail
        refine wp_world (fun W => Ext wr W ∧ Blk W wr.heap.size TCG #[.string xk, .string xv, .bool xg]) ⟨Ext.allocR _ _, Blk.new_ _ _ rfl⟩ ?_
        rintro W1 ⟨hw1, hb1⟩
        obtain ⟨H, hH⟩ : ∃ H, wr.heap.size = H := ⟨_, rfl⟩
        rw [hH] at hb1 ⊢
        have hHw := Nat.le_of_eq hH
        have HW1 := Lib.hid hw1
        have HB1 := Lib.hid hb1
        have kb := hb1.cells
        simp only [cellsAre, Nat.zero_add, Nat.reduceAdd, and_true] at kb
        have fb := hb1.free
        clear hw1 hb1 hH k1 k2 k3
        go_region
        obtain ⟨yk, hyk⟩ : ∃ yk, ByteArray.extract xk 0 (min (ByteArray.size xk : Int) 13).toNat = yk := ⟨_, rfl⟩
        obtain ⟨yv, hyv⟩ : ∃ yv, ByteArray.extract xv 0 (min (ByteArray.size xv : Int) 25).toNat = yv := ⟨_, rfl⟩
        have sk : yk.size ≤ 13 := by rw [← hyk, ByteArray.size_extract]; omega
        have sv : yv.size ≤ 25 := by rw [← hyv, ByteArray.size_extract]; omega
        rw [hyk, hyv]
        have x2 : Ext wr ((W1.setCell ⟨H, 0, none⟩ (.string yk)).setCell ⟨H, 1, none⟩ (.string yv)).drew := bt ((HW1.out.setCell (p := ⟨H, 0, none⟩) hHw _).setCell (p := ⟨H, 1, none⟩) hHw _) (Ext.drew _)
        have b2 : Blk ((W1.setCell ⟨H, 0, none⟩ (.string yk)).setCell ⟨H, 1, none⟩ (.string yv)).drew H TCG #[.string yk, .string yv, .bool xg] := ((HB1.out.set_ 0 (.string yk)).set_ 1 (.string yv)).drew
        obtain ⟨w2, hw2⟩ : ∃ w2, ((W1.setCell ⟨H, 0, none⟩ (.string yk)).setCell ⟨H, 1, none⟩ (.string yv)).drew = w2 := ⟨_, rfl⟩
        rw [hw2] at x2 b2
        have k2 := b2.cells
        simp only [cellsAre, Nat.zero_add, Nat.reduceAdd, and_true] at k2
        have hr4 : Rv (w2.alloc (.cells #[.string yk, .string yv, .bool xg] TCG)) 3 (some ⟨w2.heap.size, 0, none⟩) 1 1 (ccs [⟨yk, yv, xg⟩]) := rv_lit TCG 3 #[.string yk, .string yv, .bool xg] 1 (by omega) rfl
        have x4 : Ext wr (w2.alloc (.cells #[.string yk, .string yv, .bool xg] TCG)) := bt x2 (Ext.allocR _ _)
        have HX4 := Lib.hid x4
        have HR4 := Lib.hid hr4
        have HO4 := Lib.hid (own_below HW.out.ow x4)
        have HS2 := Lib.hid (show Cut (o ++ [⟨yk, yv, xg⟩]) from fun x hx => by
          rcases List.mem_append.1 hx with hx | hx
          · exact HW.out.cu x hx
          · rw [List.mem_singleton.1 hx]; exact ⟨sk, sv⟩)
        have HOL := Lib.hid HW.out.ln
        have HSZ := Lib.hid HW.out.ex
        clear kb fb HW1 HB1 hHw hyk hyv x2 b2 hr4 x4 sk sv HW
        go_upto_region 6 with (at_builtin; refine wpl_appC rfl _ _ rfl w.heap.size (.slice A5 j c5) o rfl HO4.out (some ⟨w2.heap.size, 0, none⟩) 1 1 [⟨yk, yv, xg⟩] rfl HR4.out (by have := HOL.out; omega) (by omega) (Nat.le_trans HSZ.out.size HX4.out.size) ?_; intro A8 n8 c8 w8 o8 r8 b8 g8; have HAP := Lib.hid (show BaS w w8 A8 n8 c8 (o ++ [⟨yk, yv, xg⟩]) from ⟨o8, (by have := r8.len; rw [ccs_len] at this; omega), HS2.out, Below.trans (bt HSZ.out HX4.out) b8⟩); clear o8 r8 b8 g8)
        obtain rfl : n8 = j + 1 := by have := HAP.out.ln; have := HOL.out; rw [List.length_append, List.length_singleton] at *; omega
        clear HX4 HR4 HO4 HS2 HOL HSZ
        go_wp2_with fail
        exact ⟨⟨j + 1, A8, c8, _, by omega, by omega, rfl, by go_num, HAP.out⟩, by simp [intOf]; omega⟩
      · rcases Nat.lt_or_ge j n' with hlt | hge
        · have p1 : (j : Int) < (n' : Int) := by omega
          have p2 : ¬ (j : Int) ≤ 16 := by omega
          go_wp2
          go_returns
          exact ⟨_, rfl, ⟨o, HW.out.ow, by have := HW.out.ln; omega, HW.out.cu⟩, HW.out.ex⟩
        · have p1 : ¬ (j : Int) < (n' : Int) := by omega
          go_wp2
          go_returns
          exact ⟨_, rfl, ⟨o, HW.out.ow, by have := HW.out.ln; omega, HW.out.cu⟩, HW.out.ex⟩
end Go.Proofs.Tb
/- The law's opened and filled. -/
namespace Go.Proofs.Tb
open Go.Maps Go.RowKit Go.Lib
attribute [local go_sem] cell_set_same neqMapL

theorem STx.imp {F G : Nat → Prop} {w : World} {s d keep n : Nat} {Vs : List (List Pr)} (h : STx F w s d keep n Vs) (hFG : ∀ b, F b → G b) : STx G w s d keep n Vs := by
  obtain ⟨vs, B, bl, g1, g2⟩ := h
  exact ⟨vs, B, bl, ⟨g1.se, g1.dk.imp hFG, hFG _ g1.fs, g1.tr, g1.bz, g1.bm⟩, g2⟩
set_option maxHeartbeats 3200000 in
set_option maxRecDepth 100000 in
theorem ropened_any (keep : Nat) (hk : keep ≤ 8) (w : World) :
    Calls Try.prog 46 #[.int .i64 (keep : Int)] w (Ret (fun z w' => ∃ s d, z = .tuple #[.pointer (some ⟨s, 0, none⟩), .pointer (some ⟨d, 0, none⟩)] ∧ STx (fun b => w.heap.size ≤ b) w' s d keep 1536 [[]]) w) := by
  go_enter Try.func46, Try.ntmps46
  go_wp2_with fail
  refine (rnewdisk_ok (F := fun b => w.heap.size ≤ b) 1536 (by omega) (by omega) w (fun b h => h)).mono ?_
  rintro e w1 ⟨v1, rfl, ⟨d, rfl, hd⟩, b1⟩
  have X1 := Lib.hid b1
  have HD := Lib.hid hd
  clear hd b1
  go_wp2_with fail
  refine (st_open HD.out (fun b hb => Nat.le_trans X1.out.size hb) (by omega) hk).mono ?_
  rintro e w2 ⟨⟨s, rfl, hs⟩, hc⟩
  have X2 := Lib.hid (hc.ge X1.out)
  have HS := Lib.hid hs
  clear hs hc X1 HD
  go_wp2
  go_returns
  exact ⟨_, rfl, ⟨s, d, rfl, HS.out⟩, X2.out⟩
/-- Ops in memory: their batches. -/
structure OpX (w : World) (A : Option Addr) (n c : Nat) : Prop where
  le : n ≤ c
  cap : c ≤ 9223372036854775807
  at_ : ∀ j, j < n → ∃ b o, A = some ⟨b, o, none⟩ ∧ ∃ A' n' c' cs, w.cell? ⟨b, o + j * 4 + 3, none⟩ = some (.slice A' n' c') ∧ Rv w 3 A' n' c' (ccs cs) ∧ ∀ x ∈ cs, x.k.size ≤ 9223372036854775807 ∧ x.v.size ≤ 9223372036854775807
/-- Where filled stands. -/
structure FiS (w W : World) (s d H keep n : Nat) (Vs : List (List Pr)) : Prop where
  st : STx (fun b => w.heap.size ≤ b) W s d keep n Vs
  rv : ∃ A m c, RSv W (.agg #[.slice A m c, .int .i64 (keep : Int)]) Vs keep ∧ Blk W H TRS #[.slice A m c, .int .i64 (keep : Int)]
  ex : Ext w W
  hw : w.heap.size ≤ H
  le : ∀ l ∈ Vs, l.length ≤ 360
theorem FiS.ext {w W W' : World} {s d H keep n : Nat} {Vs : List (List Pr)} (h : FiS w W s d H keep n Vs) (x : Ext W W') : FiS w W' s d H keep n Vs := by
  obtain ⟨A, m, c, h1, h2⟩ := h.rv
  exact ⟨h.st.ext x, ⟨A, m, c, h1.ext x, h2.below x⟩, bt h.ex x, h.hw, h.le⟩
theorem STx.pos {F : Nat → Prop} {w : World} {s d keep n : Nat} {Vs : List (List Pr)} (h : STx F w s d keep n Vs) : 0 < Vs.length := by
  obtain ⟨vs, B, bl, _, h2, _⟩ := h
  exact List.length_pos_iff.2 h2.nv
theorem MF.trs {F : Nat → Prop} (b : Nat) (cs : Array Value) : ¬ MF F b (.cells cs TRS (0, 0)) := fun hx => by
  have : TRS = TDK ∨ TRS = TBY ∨ TRS = TSE := hx.2
  revert this
  decide
theorem MF.tpa {F : Nat → Prop} (b : Nat) (cs : Array Value) : ¬ MF F b (.cells cs TPA (0, 0)) := fun hx => by
  have : TPA = TDK ∨ TPA = TBY ∨ TPA = TSE := hx.2
  revert this
  decide
theorem MF.tps {F : Nat → Prop} (b : Nat) (cs : Array Value) : ¬ MF F b (.cells cs TPS (0, 0)) := fun hx => by
  have : TPS = TDK ∨ TPS = TBY ∨ TPS = TSE := hx.2
  revert this
  decide
theorem MF.tcg {F : Nat → Prop} (b : Nat) (cs : Array Value) : ¬ MF F b (.cells cs TCG (0, 0)) := fun hx => by
  have : TCG = TDK ∨ TCG = TBY ∨ TCG = TSE := hx.2
  revert this
  decide
theorem fit_len {Vs : List (List Pr)} {keep : Nat} {L : List Pr} (h : fitB Vs keep L 1536 = true) (hV : 0 < Vs.length) : L.length ≤ 360 := by
  unfold fitB at h
  rw [decide_eq_true_iff, List.drop_append_of_le_length (by omega), fitN_app] at h
  simp only [fitN] at h
  omega
/-- The box is set anew. -/
theorem FiS.put {w W : World} {s d H keep n : Nat} {Vs : List (List Pr)} {A : Option Addr} {m c : Nat} (hst : STx (fun b => w.heap.size ≤ b) W s d keep n Vs) (hb : ∃ x y, Blk W H TRS #[x, y]) (hr : RSv W (.agg #[.slice A m c, .int .i64 (keep : Int)]) Vs keep) (hx : Ext w W) (hw : w.heap.size ≤ H) (hle : ∀ l ∈ Vs, l.length ≤ 360) :
    FiS w ((W.setCell ⟨H, 0, none⟩ (.slice A m c)).setCell ⟨H, 1, none⟩ (.int .i64 (keep : Int))) s d H keep n Vs ∧ RSv ((W.setCell ⟨H, 0, none⟩ (.slice A m c)).setCell ⟨H, 1, none⟩ (.int .i64 (keep : Int))) (.agg #[.slice A m c, .int .i64 (keep : Int)]) Vs keep := by
  obtain ⟨x, y, hb⟩ := hb
  let X : Nat → Obj → Prop := fun b o => b = H ∧ ∃ cs, o = .cells cs TRS (0, 0)
  have c1 : Chg X W (W.setCell ⟨H, 0, none⟩ (.slice A m c)) := Chg.setB hb ⟨rfl, _, rfl⟩ 0 _
  have b1 := hb.set_ 0 (.slice A m c)
  have c2 : Chg X (W.setCell ⟨H, 0, none⟩ (.slice A m c)) ((W.setCell ⟨H, 0, none⟩ (.slice A m c)).setCell ⟨H, 1, none⟩ (.int .i64 (keep : Int))) := Chg.setB b1 ⟨rfl, _, rfl⟩ 1 _
  have b2 := b1.set_ 1 (.int .i64 (keep : Int))
  have c3 := c1.trans c2
  have hne : ∀ T, T ≠ TRS → ∀ b cs, ¬ X b (.cells cs T (0, 0)) := fun T hT b cs hx => by
    obtain ⟨_, cs', e⟩ := hx
    injection e with _ e
    exact hT e
  refine ⟨⟨hst.chg c3 (fun b o _ hM hX => ?_) (hne _ (by decide)) (hne _ (by decide)) (hne _ (by decide)), ⟨A, m, c, hr.chg c3 (hne _ (by decide)) (hne _ (by decide)), b2⟩, (hx.setCell (p := ⟨H, 0, none⟩) hw _).setCell (p := ⟨H, 1, none⟩) hw _, hw, hle⟩, hr.chg c3 (hne _ (by decide)) (hne _ (by decide))⟩
  obtain ⟨rfl, cs', rfl⟩ := hX
  revert hM
  show ¬ (TRS = TDK ∨ TRS = TBY ∨ TRS = TSE)
  decide
set_option maxHeartbeats 6400000 in
set_option maxRecDepth 100000 in
theorem rfilled_any (A : Option Addr) (nx cx : Nat) (most keep : Nat) (hm : most ≤ 20) (hk : keep ≤ 8) (w : World) (h : OpX w A nx cx) :
    Calls Try.prog 10 #[.slice A nx cx, .int .i64 (most : Int), .int .i64 (keep : Int)] w (Ret (fun z w' => ∃ s d rv Vs, z = .tuple #[.pointer (some ⟨s, 0, none⟩), .pointer (some ⟨d, 0, none⟩), rv] ∧ STx (fun b => w.heap.size ≤ b) w' s d keep 1536 Vs ∧ RSv w' rv Vs keep ∧ Vs.length ≤ most + 1 ∧ ∀ l ∈ Vs, l.length ≤ 360) w) := by
  have hle := h.le
  have hcp := h.cap
  have HX := Lib.hid h
  clear h
  go_enter Try.func10, Try.ntmps10
  go_wp2_with fail
  have x0 : Ext w (w.alloc (.cells #[.slice none 0 0, .int .i64 0] TRS)) := Ext.allocR _ _
  have b0 : Blk (w.alloc (.cells #[.slice none 0 0, .int .i64 0] TRS)) w.heap.size TRS #[.slice none 0 0, .int .i64 0] := Blk.new_ _ _ rfl
  refine (ropened_any keep hk _).mono ?_
  rintro e w1 ⟨v1, rfl, ⟨s, d, rfl, hs⟩, bb1⟩
  have hs1 : STx (fun b => w.heap.size ≤ b) w1 s d keep 1536 [[]] := hs.imp fun b hb => Nat.le_trans x0.size hb
  have HS1 := Lib.hid hs1
  have X1 := Lib.hid (bt x0 bb1)
  have B1 := Lib.hid (b0.below bb1)
  clear hs hs1 bb1 b0 x0
  go_wp2_with fail
  refine (znew_any keep w1).mono ?_
  rintro e w2 ⟨v2, rfl, hr, bb2⟩
  obtain ⟨A2, m2, c2, rfl, hh2⟩ := hr.form
  clear hh2
  have R2 := Lib.hid hr
  have HS2 := Lib.hid (HS1.out.ext bb2)
  have X2 := Lib.hid (bt X1.out bb2)
  have B2 := Lib.hid (B1.out.below bb2)
  clear hr bb2 HS1 X1 B1
  go_upto_region 3 with fail
  have x3 : Ext w2 (w2.alloc (.cells #[.slice A2 m2 c2, .int .i64 (keep : Int)] TRS)) := Ext.allocR _ _
  have b3 : Blk (w2.alloc (.cells #[.slice A2 m2 c2, .int .i64 (keep : Int)] TRS)) w2.heap.size TRS #[.slice A2 m2 c2, .int .i64 (keep : Int)] := Blk.new_ _ _ rfl
  have hne : w.heap.size ≠ w2.heap.size := by have := B2.out.lt; omega
  refine wp_world (fun W => FiS w W s d w2.heap.size keep 1536 [[]] ∧ Blk W w.heap.size TRS #[.slice none 0 0, .int .i64 0]) ⟨⟨HS2.out.ext x3, ⟨A2, m2, c2, R2.out.ext x3, b3⟩, bt X2.out x3, X2.out.size, fun l hl => by rw [List.mem_singleton.1 hl]; exact Nat.zero_le _⟩, B2.out.below x3⟩ ?_
  obtain ⟨H, hH⟩ : ∃ H, w2.heap.size = H := ⟨_, rfl⟩
  rw [hH] at hne ⊢
  rintro W3 ⟨hw3, hb3⟩
  have HW3 := Lib.hid hw3
  have HB3 := Lib.hid hb3
  clear hw3 hb3 x3 b3 hH HS2 R2 X2 B2
  go_wp2_with fail
  go_loopw [12] (fun i wr => ∃ (j : Nat) (Vs : List (List Pr)), j ≤ nx ∧ j ≤ most ∧ i = .int .i64 (j : Int) ∧ Vs.length ≤ j + 1 ∧ FiS w wr s d H keep 1536 Vs ∧ Blk wr w.heap.size TRS #[.slice none 0 0, .int .i64 0]) (fun i _ => nx - (intOf i).toNat)
  case atStart => exact ⟨0, [[]], by omega, by omega, rfl, by decide, HW3.out, HB3.out⟩
  case round =>
    clear HW3 HB3
    obtain ⟨j, Vs, hjn, hjm, rfl, hvl, hw, hb⟩ := hrel
    have HW := Lib.hid hw
    have HB := Lib.hid hb
    clear hw hb
    by_cases hjj : j < nx ∧ j < most
    · have p1 : (j : Int) < (nx : Int) := by omega
      have p2 : (j : Int) < (most : Int) := by omega
      have wj : IntKind.i64.wrap ((j : Int) + 1) = ((j + 1 : Nat) : Int) := by rw [IntWalk.i64_in _ (by omega)]; rfl
      obtain ⟨b, o, rfl, Ab, nb, cb, bs, kb, hrb, hsb⟩ := HX.out.at_ j hjj.1
      have kb1 := ext_cell HW.out.ex kb
      have HRB := Lib.hid hrb
      have HSB := Lib.hid hsb
      clear kb hrb hsb
      go_wp2_with fail
      refine (rbat_any Ab nb cb bs 6 wr (HRB.out.below HW.out.ex) HSB.out (by omega)).mono ?_
      rintro e w4 ⟨v4, rfl, ⟨l, hol, hll, hcu⟩, b4⟩
      obtain ⟨Al, cl, rfl, hrl⟩ := own_rv hol
      have HW4 := Lib.hid (HW.out.ext b4)
      have HB4 := Lib.hid (HB.out.below b4)
      have RL := Lib.hid hrl
      have OL := Lib.hid hol
      have CU := Lib.hid hcu
      clear hol b4 hrl hcu HRB HSB kb1 HW HB
      go_wp2_with fail
      refine (zbatch_any Al _ cl l w4 RL.out (by omega) (fun x hx => by have := CU.out x hx; omega)).mono ?_
      rintro e w5 ⟨v5, rfl, rfl, b5⟩
      have HW5 := Lib.hid (HW4.out.ext b5)
      have HB5 := Lib.hid (HB4.out.below b5)
      have RL5 := Lib.hid (RL.out.below b5)
      have OL5 := Lib.hid (own_below OL.out b5)
      clear b5 HW4 HB4 RL
      obtain ⟨A5, m5, c5, hr5, hk5⟩ := HW5.out.rv
      have k5 := hk5.cells
      simp only [cellsAre, Nat.zero_add, Nat.reduceAdd, and_true] at k5
      have HR5 := Lib.hid hr5
      clear hk5 hr5
      cases hbat : batB l with
      | false =>
        clear hbat
        go_wp2_with fail
        exact ⟨⟨j + 1, Vs, by omega, by omega, rfl, by omega, HW5.out, HB5.out⟩, by simp [intOf]; omega⟩
      | true =>
        have HBT := Lib.hid hbat
        obtain ⟨L, hL⟩ : ∃ L, Vs.getD (Vs.length - 1) [] = L := ⟨_, rfl⟩
        have hVp := HW5.out.st.pos
        have hLm : L.length ≤ 360 := by
          rw [← hL, show Vs.getD (Vs.length - 1) [] = Vs[Vs.length - 1] by simp [List.getD, show Vs.length - 1 < Vs.length by omega]]
          exact HW5.out.le _ (List.getElem_mem _)
        have HL := Lib.hid hL
        clear hbat hL
        go_wp2_with fail
        refine (zfits_any HR5.out (by omega) (by omega) (by omega) HL.out (fun x hx => by have := HW5.out.le x hx; omega) Al _ cl l RL5.out (by omega) 1536).mono ?_
        rintro e w6 ⟨v6, rfl, rfl, b6⟩
        have HW6 := Lib.hid (HW5.out.ext b6)
        have HB6 := Lib.hid (HB5.out.below b6)
        have RL6 := Lib.hid (RL5.out.below b6)
        have OL6 := Lib.hid (own_below OL5.out b6)
        clear b6 HW5 HB5 RL5 HR5 k5
        cases hfit : fitB Vs keep (aft L l) 1536 with
        | false =>
          clear hfit
          go_wp2_with fail
          exact ⟨⟨j + 1, Vs, by omega, by omega, rfl, by omega, HW6.out, HB6.out⟩, by simp [intOf]; omega⟩
        | true =>
          have HFT := Lib.hid hfit
          have HLN := Lib.hid (fit_len hfit hVp)
          clear hfit
          go_wp2_with fail
          refine (st_commit_fit HW6.out.st (fun b hb => Nat.le_trans HW6.out.ex.size hb) (by omega) (by omega) (by omega) HL.out (by omega) Al _ cl l RL6.out HBT.out HFT.out).mono ?_
          rintro e w7 ⟨rfl, hs7, hc7⟩
          unfold ansV
          have HS7 := Lib.hid hs7
          have HB7 := Lib.hid (hc7.blk HB6.out (MF.trs _ _))
          have RL7 := Lib.hid (own_rvv (OwC.chg OL6.out hc7 MF.tcg))
          have X7 := Lib.hid (hc7.ge HW6.out.ex)
          obtain ⟨A6, m6, c6, hr6, hk6⟩ := HW6.out.rv
          have HK7 := Lib.hid (hc7.blk hk6 (MF.trs _ _))
          have HR7 := Lib.hid (hr6.chg hc7 MF.tpa MF.tps)
          have HHW := Lib.hid HW6.out.hw
          have HLE := Lib.hid HW6.out.le
          have k7 := HK7.out.cells
          simp only [cellsAre, Nat.zero_add, Nat.reduceAdd, and_true] at k7
          have wV : IntKind.i64.wrap ((Vs.length : Int) - 1 + 1) = (Vs.length : Int) := by rw [IntWalk.i64_in _ (by omega)]; omega
          clear hs7 hc7 hk6 hr6 HW6 HB6 RL6 OL6 OL5 OL
          go_wp2_with fail
          refine (znewest_any HR7.out (by omega)).mono ?_
          rintro e w8 ⟨v8, rfl, rfl, b8⟩
          have HS8 := Lib.hid (HS7.out.ext b8)
          have HR8 := Lib.hid (HR7.out.ext b8)
          have HB8 := Lib.hid (HB7.out.below b8)
          have HK8 := Lib.hid (HK7.out.below b8)
          have RL8 := Lib.hid (RL7.out.below b8)
          have X8 := Lib.hid (bt X7.out b8)
          have k8 := HK8.out.cells
          simp only [cellsAre, Nat.zero_add, Nat.reduceAdd, and_true] at k8
          clear b8 HS7 HR7 HB7 HK7 RL7 X7 k7
          go_wp2_with fail
          refine (zcommit_any HR8.out (by omega) (by omega) HL.out (by omega) Al _ cl l RL8.out (by omega)).mono ?_
          rintro e w9 ⟨v9, rfl, hr9, b9⟩
          obtain ⟨A9, m9, c9, rfl, hh9⟩ := hr9.form
          clear hh9
          have HS9 := Lib.hid (HS8.out.ext b9)
          have HR9 := Lib.hid hr9
          have HB9 := Lib.hid (HB8.out.below b9)
          have HK9 := Lib.hid (HK8.out.below b9)
          have X9 := Lib.hid (bt X8.out b9)
          have k9 := HK9.out.cells
          simp only [cellsAre, Nat.zero_add, Nat.reduceAdd, and_true] at k9
          have f9 := HK9.out.free
          clear b9 hr9 HS8 HR8 HB8 HK8 RL8 X8 k8 wV
          go_wp2_with fail
          exact ⟨⟨j + 1, Vs ++ [aft L l], by omega, by omega, rfl, by rw [List.length_append, List.length_singleton]; omega, (FiS.put HS9.out ⟨_, _, HK9.out⟩ HR9.out X9.out HHW.out fun x hx => by
            rcases List.mem_append.1 hx with hx | hx
            · exact HLE.out x hx
            · rw [List.mem_singleton.1 hx]; exact HLN.out).1, (HB9.out.far hne _).far hne _⟩, by simp [intOf]; omega⟩
    · obtain ⟨A6, m6, c6, hr6, hk6⟩ := HW.out.rv
      have k6 := hk6.cells
      simp only [cellsAre, Nat.zero_add, Nat.reduceAdd, and_true] at k6
      have k8 := HB.out.cells
      simp only [cellsAre, Nat.zero_add, Nat.reduceAdd, and_true] at k8
      have f8 := HB.out.free
      have HR6 := Lib.hid hr6
      have hcond : (decide ((j : Int) < (nx : Int)) && decide ((j : Int) < (most : Int))) = false := by
        rw [Bool.and_eq_false_iff, decide_eq_false_iff_not, decide_eq_false_iff_not]
        omega
      rcases Nat.lt_or_ge j nx with hlt | hge
      · have p1 : (j : Int) < (nx : Int) := by omega
        have p2 : ¬ (j : Int) < (most : Int) := by omega
        clear hr6 hk6 hcond
        go_upto_region 14 with fail
        go_region
        obtain ⟨hF, hR⟩ := FiS.put HW.out.st ⟨_, _, HB.out⟩ HR6.out HW.out.ex (Nat.le_refl _) HW.out.le
        have b9 : Blk ((wr.setCell ⟨w.heap.size, 0, none⟩ (.slice A6 m6 c6)).setCell ⟨w.heap.size, 1, none⟩ (.int .i64 (keep : Int))).drew w.heap.size TRS #[.slice A6 m6 c6, .int .i64 (keep : Int)] := ((HB.out.set_ 0 (.slice A6 m6 c6)).set_ 1 (.int .i64 (keep : Int))).drew
        have hF9 := hF.ext (Ext.drew _)
        have hR9 := hR.ext (Ext.drew _)
        obtain ⟨w9, hw9⟩ : ∃ w9, ((wr.setCell ⟨w.heap.size, 0, none⟩ (.slice A6 m6 c6)).setCell ⟨w.heap.size, 1, none⟩ (.int .i64 (keep : Int))).drew = w9 := ⟨_, rfl⟩
        rw [hw9] at b9 hF9 hR9 ⊢
        have k9 := b9.cells
        simp only [cellsAre, Nat.zero_add, Nat.reduceAdd, and_true] at k9
        have HF9 := Lib.hid hF9
        have HR9 := Lib.hid hR9
        clear hF hR hF9 hR9 hw9 b9 k6 k8 f8
        go_wp2
        (try simp only [Exit.inBlock, Exit.then])
        refine bodyPost_ret (v := (.tuple #[.pointer (some ⟨s, 0, none⟩), .pointer (some ⟨d, 0, none⟩), .agg #[.slice A6 m6 c6, .int .i64 (keep : Int)]])) (by simp [results, Try.results10, go_sem, *]) rfl ?_
        exact ⟨_, rfl, ⟨s, d, _, rfl, _, HF9.out.st, HR9.out, by omega, HF9.out.le⟩, HF9.out.ex⟩
      · have p1 : ¬ (j : Int) < (nx : Int) := by omega
        clear hr6 hk6 hcond
        go_upto_region 14 with fail
        go_region
        obtain ⟨hF, hR⟩ := FiS.put HW.out.st ⟨_, _, HB.out⟩ HR6.out HW.out.ex (Nat.le_refl _) HW.out.le
        have b9 : Blk ((wr.setCell ⟨w.heap.size, 0, none⟩ (.slice A6 m6 c6)).setCell ⟨w.heap.size, 1, none⟩ (.int .i64 (keep : Int))).drew w.heap.size TRS #[.slice A6 m6 c6, .int .i64 (keep : Int)] := ((HB.out.set_ 0 (.slice A6 m6 c6)).set_ 1 (.int .i64 (keep : Int))).drew
        have hF9 := hF.ext (Ext.drew _)
        have hR9 := hR.ext (Ext.drew _)
        obtain ⟨w9, hw9⟩ : ∃ w9, ((wr.setCell ⟨w.heap.size, 0, none⟩ (.slice A6 m6 c6)).setCell ⟨w.heap.size, 1, none⟩ (.int .i64 (keep : Int))).drew = w9 := ⟨_, rfl⟩
        rw [hw9] at b9 hF9 hR9 ⊢
        have k9 := b9.cells
        simp only [cellsAre, Nat.zero_add, Nat.reduceAdd, and_true] at k9
        have HF9 := Lib.hid hF9
        have HR9 := Lib.hid hR9
        clear hF hR hF9 hR9 hw9 b9 k6 k8 f8
        go_wp2
        (try simp only [Exit.inBlock, Exit.then])
        refine bodyPost_ret (v := (.tuple #[.pointer (some ⟨s, 0, none⟩), .pointer (some ⟨d, 0, none⟩), .agg #[.slice A6 m6 c6, .int .i64 (keep : Int)]])) (by simp [results, Try.results10, go_sem, *]) rfl ?_
        exact ⟨_, rfl, ⟨s, d, _, rfl, _, HF9.out.st, HR9.out, by omega, HF9.out.le⟩, HF9.out.ex⟩
end Go.Proofs.Tb
