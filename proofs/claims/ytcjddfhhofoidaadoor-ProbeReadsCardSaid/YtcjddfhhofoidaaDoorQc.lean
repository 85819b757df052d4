/- Contract of slices.Sorted at what slices.Values hands back for a slice of integers. -/
import Derived.Test.YtcjddfhhofoidaaDoorQb
import Derived.Test.YtcjddfhhofoidaaDoorLad
import Derived.Shelf.SlIterI.Sorted
import Derived.Shelf.SortM.Plain
import Derived.Shelf.SortM.SortNone
set_option linter.unusedVariables false
set_option linter.unusedSimpArgs false
namespace Go.Proofs.Tb
open Go.RowKit Go.Maps Go.Sort Go.Shelf
attribute [local go_sem] cell_set_same

set_option maxHeartbeats 1600000 in
set_option maxRecDepth 100000 in
/-- The iterator over a slice: it hands each element to its yield, in order. -/
theorem lvals_in (w0 : World) (B n c : Nat) (A : Option Addr) (xs : List Int) (hbox : Blk w0 B TIS #[.slice A n c]) (hil : Il w0 A n c xs) (m : Nat) (hm : 1 ≤ m) (N : Nat) (hN : n ≤ N) (l : Nat) (J : List Int → World → Prop)
    (hJB : ∀ s W, J s W → Below w0.heap.size w0 W)
    (hY : ∀ pre x W1, J pre W1 → pre.length < N → YieldAt Fence.wide (m - 1) Tryd.prog l #[encZ x] W1 fun e W' => e = .returned (.bool true) ∧ J (pre ++ [x]) W' ∧ KeepsWalks W1 W') (W : World) (h0 : J [] W) :
    CallsIn Fence.wide m Tryd.prog 88 #[.func (.yield l) #[] #[], .pointer (some ⟨B, 0, none⟩)] W fun e W' => (∃ v, e = .returned v) ∧ J xs W' := by
  have hn := hil.le
  have hc := hil.cap
  have HL := Lib.hid hil.len
  have cB := (hbox.below (hJB _ _ h0)).cells
  simp only [cellsAre, Nat.zero_add, Nat.reduceAdd, and_true] at cB
  have HIL := Lib.hid hil
  have HJB := Lib.hid hJB
  have HY := Lib.hid hY
  have H0 := Lib.hid h0
  clear hil hbox hJB hY h0
  refine callsIn_of_wp Tryd.func88 rfl trivial ?_ rfl
  simp only [Tryd.ntmps88, List.size_toArray, List.length_cons, List.length_nil, Nat.reduceAdd, Nat.reduceSub, Array.replicate_succ, Array.replicate_zero, List.push_toArray, List.append_toArray, List.nil_append, List.cons_append]
  gi_wp2_with fail
  gi_loopw [7] (fun i wr => ∃ k : Nat, k ≤ n ∧ i = .int .i64 (k : Int) ∧ J (xs.take k) wr) (fun i _ => n - (intOf i).toNat)
  case atStart => exact ⟨0, Nat.zero_le _, rfl, H0.out⟩
  case round =>
    clear H0
    obtain ⟨k, hk, rfl, hj⟩ := hrel
    have HJ := Lib.hid hj
    clear hj
    by_cases hkn : k < n
    · have pk : (k : Int) < (n : Int) := by omega
      obtain ⟨b, o, rfl, hcell⟩ := (HIL.out.below (HJB.out _ _ HJ.out)).at_ (by omega)
      have ck := hcell k hkn
      obtain ⟨x, hx⟩ : ∃ x, xs.getD k 0 = x := ⟨_, rfl⟩
      rw [hx] at ck
      have HX : Hid (xs.take (k + 1) = xs.take k ++ [x]) := by
        have hkl : k < xs.length := by rw [HL.out]; exact hkn
        have e : xs.getD k 0 = xs[k] := by simp [List.getD, hkl]
        rw [List.take_succ_eq_append_getElem hkl, ← e, hx]
        exact (rfl : _ = _)
      obtain ⟨fn, tmps, assign, body, hy, hR⟩ := HY.out (xs.take k) x wr HJ.out (by rw [List.length_take]; omega)
      have hy' : (Instr.yield l #[.int .i64 x]).run Tryd.prog wr = .ok (.round l fn tmps assign body) wr := hy
      clear hcell hx hy
      gi_wp2
      refine hR.mono ?_
      rintro e W3 ⟨rfl, hJ3, _⟩
      rw [← HX.out] at hJ3
      have HJ3 := Lib.hid hJ3
      clear hJ3 hR hy'
      gi_wp2
      go_roundw
      case rel => exact ⟨k + 1, by omega, by go_num, HJ3.out⟩
      case measure => simp [intOf]; omega
    · have hkn2 : k = n := by omega
      subst hkn2
      have HE : Hid (xs.take k = xs) := show _ = _ from List.take_of_length_le (by have := HL.out; omega)
      gi_wp2
      go_end0
      exact ⟨⟨_, rfl⟩, by rw [← HE.out]; exact HJ.out⟩
theorem encZ_map (xs : List Int) : xs.map encZ = ic xs := rfl
theorem apL : SlLaysZI.n11 Tryd.prog sortedI_ren := { sortedI_lay with }
set_option maxRecDepth 100000 in
set_option maxHeartbeats 2000000 in
/-- slices.AppendSeq(nil, slices.Values(s)): a new slice of the same numbers. -/
theorem lappseq_in (B n c : Nat) (A : Option Addr) (xs : List Int) (w : World) (hbox : Blk w B TIS #[.slice A n c]) (hil : Il w A n c xs) (hn1 : n ≤ 1000) (m : Nat) (hm : 3 ≤ m) :
    CallsIn Fence.wide m Tryd.prog 103 #[.slice none 0 0, .func (.func 88) #[] #[.pointer (some ⟨B, 0, none⟩)]] w fun e w' => ∃ v, e = .returned v ∧ OwI w.heap.size w' v xs ∧ Below w.heap.size w w' := by
  have hne : (37 : TypeId) ≠ 3 := by decide
  refine callsIn_of_wp_marks Tryd.func103 rfl trivial ?_ rfl
  simp only [Tryd.ntmps103, List.size_toArray, List.length_cons, List.length_nil, Nat.reduceAdd, Nat.reduceSub, Array.replicate_succ, Array.replicate_zero, List.push_toArray, List.append_toArray, List.nil_append, List.cons_append]
  gi_wp2
  refine wpIn_rangeFunc ?_
  intro fn hfn
  have hb0 : Below w.heap.size w (w.alloc (.cells #[.slice none 0 0] TIS)) := Ext.allocR _ _
  obtain ⟨W0, hW0⟩ : ∃ W0, w.alloc (.cells #[.slice none 0 0] TIS) = W0 := ⟨_, rfl⟩
  have hs0 : W0.heap.size = w.heap.size + 1 := by rw [← hW0]; simp
  have hv0 : W0.heap[w.heap.size]? = some (.cells #[.slice none 0 0] TIS (0, 0)) := by rw [← hW0]; exact World.alloc_heap_new w _
  rw [hW0] at hb0 ⊢
  obtain ⟨W1, hW1⟩ : ∃ W1, (W0.alloc (.deferred (some []))).alloc (.loop (AnyZI.apRec sortedI_ren fn (.func (.func 88) #[] #[.pointer (some ⟨B, 0, none⟩)]) w.heap.size W0.heap.size .ready none)) = W1 := ⟨_, rfl⟩
  have hx0 : Ext W0 W1 := by rw [← hW1]; exact bt (Ext.allocR W0 (.deferred (some []))) (Ext.allocR _ _)
  have hb1 : Below w.heap.size w W1 := hb0.trans (hx0.mono (by omega))
  have hM : AnyZI.ApAt sortedI_ren w fn (.func (.func 88) #[] #[.pointer (some ⟨B, 0, none⟩)]) w.heap.size (W0.heap.size + 1) W0.heap.size [] W1 := by
    refine ⟨⟨_, (hx0.block w.heap.size (by omega)).trans hv0, ⟨rfl, .inl ⟨rfl, rfl⟩⟩, by simp⟩, ?_, ?_, hb1⟩
    · rw [← hW1]
      have h := World.alloc_heap_new (W0.alloc (.deferred (some []))) (.loop (AnyZI.apRec sortedI_ren fn (.func (.func 88) #[] #[.pointer (some ⟨B, 0, none⟩)]) w.heap.size W0.heap.size .ready none))
      rwa [World.size_alloc] at h
    · rw [← hW1]
      exact (Below.heap_alloc _ _ _ (by simp)).trans (World.alloc_heap_new W0 _)
  refine ⟨W0.heap.size + 1, [{ target := .collected W0.heap.size, args := #[] }], W1, { target := .fn (.func 88) #[.pointer (some ⟨B, 0, none⟩)], args := #[.func (.yield (W0.heap.size + 1)) #[] #[]] }, W1, 88,
    #[.func (.yield (W0.heap.size + 1)) #[] #[], .pointer (some ⟨B, 0, none⟩)], W1, ?_, ?_, ?_, ?_, fun _ => by omega, ?_⟩
  · rw [← hW1]; exact run_enterLoop_outer _ _ _ _ _
  · simp [resolve, go_sem]
  · intro f' hf'; trivial
  · simp [invoke, go_sem, enters_of Tryd.func88 (by kernel_rfl) rfl]
  · refine (lvals_in w B n c A xs hbox hil (m - 1) (by omega) 1000 hn1 (W0.heap.size + 1) (AnyZI.ApAt sortedI_ren w fn (.func (.func 88) #[] #[.pointer (some ⟨B, 0, none⟩)]) w.heap.size (W0.heap.size + 1) W0.heap.size)
      (fun s W h => h.below)
      (fun pre x W hJ hl => AnyZI.apYield apL Fence.wide (m - 1 - 1) w fn hfn _ w.heap.size (W0.heap.size + 1) W0.heap.size (by omega) (by omega) (by omega) (Nat.le_refl _) (by omega) 1000 (by unfold maxLen; omega) (by omega) pre x W hJ hl) W1 hM).mono ?_
    rintro e W2 ⟨⟨v0, rfl⟩, h2⟩
    obtain ⟨v, hv, hrow, hnil⟩ := h2.box
    have hend := run_endLoop (P := Tryd.prog) h2.L (by simp [AnyZI.apRec])
    obtain ⟨RO, hRO⟩ : ∃ RO : Obj, .loop { AnyZI.apRec sortedI_ren fn (.func (.func 88) #[] #[.pointer (some ⟨B, 0, none⟩)]) w.heap.size W0.heap.size .ready none with state := .exhausted } = RO := ⟨_, rfl⟩
    rw [hRO] at hend
    have hv3 : (W2.putObj (W0.heap.size + 1) RO).heap[w.heap.size]? = some (.cells #[v] TIS (0, 0)) := (World.putObj_heap_other (by omega)).trans hv
    have hK3 : (W2.putObj (W0.heap.size + 1) RO).heap[W0.heap.size]? = some (.deferred (some [])) := (World.putObj_heap_other (by omega)).trans h2.K
    have hrow3 := hrow.kept (grownBy_putObj_a W2 (W0.heap.size + 1) RO) (ownsRow_ne_a hrow h2.L (fun cur e => by cases e))
    have hb3 : Below w.heap.size w (W2.putObj (W0.heap.size + 1) RO) := h2.below.grown (grownBy_putObj_a _ _ _) h2.below.size (fun k e => by cases e; omega)
    obtain ⟨W3, hW3⟩ : ∃ W3, W2.putObj (W0.heap.size + 1) RO = W3 := ⟨_, rfl⟩
    rw [hW3] at hv3 hK3 hrow3 hb3 hend
    obtain ⟨hc3, hf3⟩ := cell_of_box_a hv3
    refine ⟨none, W3, hend, ?_⟩
    clear hW3 hRO hend hv hrow h2 hM hv0
    gi_wp2
    rw [← hs0]
    refine ⟨by simp, .inl ⟨_, _, rfl, run_takeDeferred hK3, ?_⟩⟩
    have hrow4 : OwI w.heap.size (W3.putObj W0.heap.size (.deferred none)) v xs := hrow3.kept (grownBy_putObj_a _ _ _) (ownsRow_ne_a hrow3 hK3 (fun cur e => by cases e))
    have hb4 : Below w.heap.size w (W3.putObj W0.heap.size (.deferred none)) := hb3.grown (grownBy_putObj_a _ _ _) hb3.size (fun k e => by cases e; omega)
    exact ⟨_, results_tmp rfl _ _ _, v, rfl, hrow4, hb4⟩
set_option maxHeartbeats 1600000 in
set_option maxRecDepth 100000 in
theorem lcollect_in (B n c : Nat) (A : Option Addr) (xs : List Int) (w : World) (hbox : Blk w B TIS #[.slice A n c]) (hil : Il w A n c xs) (hn1 : n ≤ 1000) (m : Nat) (hm : 4 ≤ m) :
    CallsIn Fence.wide m Tryd.prog 86 #[.func (.func 88) #[] #[.pointer (some ⟨B, 0, none⟩)]] w fun e w' => ∃ v, e = .returned v ∧ OwI w.heap.size w' v xs ∧ Below w.heap.size w w' := by
  have hfA : Fence.wide.fn 103 := trivial
  have h1 : 1 ≤ m := by omega
  refine callsIn_of_wp Tryd.func86 rfl trivial ?_ rfl
  simp only [Tryd.ntmps86, List.size_toArray, List.length_cons, List.length_nil, Nat.reduceAdd, Nat.reduceSub, Array.replicate_succ, Array.replicate_zero, List.push_toArray, List.append_toArray, List.nil_append, List.cons_append]
  gi_wp2_with (gi_at_call 103; refine (lappseq_in B n c A xs w hbox hil hn1 (m - 1) (by omega)).mono ?_; rintro e w' ⟨v, rfl, ho, hb⟩)
  go_ret
  exact ⟨v, rfl, ho, hb⟩
/-- Sorted numbers. -/
def srtI (xs : List Int) : List Int := xs.mergeSort fun x y => decide (x ≤ y)
set_option maxHeartbeats 1600000 in
set_option maxRecDepth 100000 in
theorem lsorted_any (B n c : Nat) (A : Option Addr) (xs : List Int) (w : World) (hbox : Blk w B TIS #[.slice A n c]) (hil : Il w A n c xs) (hn1 : n ≤ 1000) (hn0 : 0 < n) :
    Calls Tryd.prog 74 #[.func (.func 88) #[] #[.pointer (some ⟨B, 0, none⟩)]] w (Ret (fun v w' => OwI w.heap.size w' v (srtI xs)) w) := by
  have hl : xs.length = n := hil.len
  refine (callsIn_wide (n := 6)).1 ?_
  have hfC : Fence.wide.fn 86 := trivial
  have hfS : Fence.wide.fn 87 := trivial
  refine callsIn_of_wp Tryd.func74 rfl trivial ?_ rfl
  simp only [Tryd.ntmps74, List.size_toArray, List.length_cons, List.length_nil, Nat.reduceAdd, Nat.reduceSub, Array.replicate_succ, Array.replicate_zero, List.push_toArray, List.append_toArray, List.nil_append, List.cons_append]
  gi_wp2_with (gi_at_call 86; refine (lcollect_in B n c A xs w hbox hil hn1 5 (by omega)).mono ?_; rintro e W ⟨v, rfl, ho, hb⟩)
  rcases ho.2 with ⟨_, hz⟩ | ⟨g, cap, cur, rfl, hbase, hgb, r1, r2, r3, r4⟩
  · omega
  · have hH : Holds encZ W g 0 xs.toArray := holds_of_block_i hgb (by rw [Nat.mul_one] at r4; exact r4)
    have cS := callsIn_wide (n := 5).2 (AnyM.slices_Sort_int sortI_lay g 0 cap xs W hH (block_lt hgb) (by omega))
    refine cS.mono ?_
    rintro e w' ⟨rfl, nn, os, rfl⟩
    have hrow : OwI w.heap.size (grow (putRow (Value.int .i64) (Go.Sort.ahead W nn) g 0 (xs.mergeSort fun x y => decide (x ≤ y)).toArray) os) (.slice (some ⟨g, 0, none⟩) xs.length cap) (srtI xs) := by
      have h := ownsRow_sorted_i (os := os) (n := nn) (ts := srtI xs) (ss := xs) (by simp [srtI]) hbase hgb r1 r2 r3
      have e : (srtI xs).length = xs.length := by simp [srtI]
      unfold OwI
      rw [e]
      exact h
    have hb3 : Below w.heap.size w (grow (putRow (Value.int .i64) (Go.Sort.ahead W nn) g 0 (xs.mergeSort fun x y => decide (x ≤ y)).toArray) os) := hb.grown (grownBy_sorted_i _) hb.size (fun j hj => by cases hj; exact hbase)
    rw [hl] at hrow
    have HR := Lib.hid (And.intro hrow hb3)
    clear hrow hb3
    gi_wp2
    go_returns
    exact ⟨_, rfl, HR.out.1, HR.out.2⟩
end Go.Proofs.Tb
