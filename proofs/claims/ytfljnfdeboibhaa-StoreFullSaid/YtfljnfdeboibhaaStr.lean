/- slices.Sorted of maps.Keys at a map of free blocks. -/
import Derived.Test.YtfljnfdeboibhaaStp
import Derived.Test.YtfljnfdeboibhaaStq
import Derived.Test.YtfljnfdeboibhaaSto
import Derived.Shelf.SlIterI.Sorted
import Derived.Shelf.SortM.Plain
import Derived.Shelf.SortM.SortNone
set_option linter.unusedVariables false
set_option linter.unusedSimpArgs false
namespace Go.Proofs.Tb
open Go.Maps Go.RowKit Go.Sort Go.Shelf
attribute [local go_sem] cell_set_same

theorem entB_keys (L : List Nat) : intKeys (.map (entB L) : DataW Unit) = L.map fun (k : Nat) => (k : Int) := by
  unfold intKeys entB
  simp only
  induction L with
  | nil => rfl
  | cons x L ih =>
    show _ :: _ = _ :: _
    rw [ih]
    rfl
theorem entB_size (L : List Nat) : Maps.size (.map (entB L) : DataW Unit) = L.length := by
  unfold Maps.size entB
  simp
theorem sortsI (m : Nat) : AnyZI.SortsIn Try.prog sortedI_ren Fence.wide m :=
  ⟨fun blk off cap ss W hH hblk hsz => callsIn_wide.2 (AnyM.slices_Sort_int sortI_lay blk off cap ss W hH hblk hsz),
   fun p cap W => callsIn_wide.2 (AnyM.slices_Sort_int_none sortI_lay p cap W)⟩
theorem rkeysB_any (b : Nat) (w : World) : Calls Try.prog 83 #[.map (some b)] w (Ret (fun v w' => v = .func (.func 98) #[] #[.pointer (some ⟨w.heap.size, 0, none⟩)] ∧ Blk w' w.heap.size TMB #[.map (some b)] ∧ Ext w w') w) := by
  have h : CallsIn Fence.wide 5 Try.prog 83 #[.map (some b)] w fun e w' => e = .returned (.func (.func 98) #[] #[.pointer (some ⟨w.heap.size, 0, none⟩)]) ∧ w' = w.alloc (.cells #[.map (some b)] TMB) := AnyZI.keys_in keysB_lay Fence.wide 5 trivial rfl (some b) w
  refine ((callsIn_wide (n := 5)).1 h).mono ?_
  rintro e w' ⟨rfl, rfl⟩
  exact ⟨_, rfl, ⟨rfl, Blk.new_ _ _ rfl, Ext.allocR _ _⟩, Ext.allocR _ _⟩
theorem rise_srt {L : List Nat} (hL : L.Pairwise (· < ·)) {ss : List Int} (hp : ss.Perm (L.map fun (k : Nat) => (k : Int))) : ss.mergeSort (fun x y => decide (x ≤ y)) = L.map fun (k : Nat) => (k : Int) := by
  have h1 : (ss.mergeSort fun x y => decide (x ≤ y)).Pairwise (· ≤ ·) := by
    have := List.pairwise_mergeSort (le := fun (x y : Int) => decide (x ≤ y)) (fun a b c h1 h2 => by simp at *; omega) (fun a b => by simp; omega) ss
    exact this.imp fun h => by simpa using h
  have h2 : (L.map fun (k : Nat) => (k : Int)).Pairwise (· ≤ ·) := by
    rw [List.pairwise_map]
    exact hL.imp fun h => by omega
  exact ((List.mergeSort_perm ss _).trans hp).eq_of_pairwise (fun a b _ _ h1 h2 => Int.le_antisymm h1 h2) h1 h2
set_option maxHeartbeats 1600000 in
set_option maxRecDepth 100000 in
theorem rsortedB_any (Bm b n : Nat) (L : List Nat) (w : World) (hb : Blk w Bm TMB #[.map (some b)]) (hm : MkB w b n L) (hL : L.Pairwise (· < ·)) (hl : L.length ≤ 1000000) :
    Calls Try.prog 73 #[.func (.func 98) #[] #[.pointer (some ⟨Bm, 0, none⟩)]] w (Ret (fun v w' => w'.ownsRow w.heap.size TIN 1 v L.length (ri L)) w) := by
  have hc := hb.cells
  simp only [cellsAre, Nat.zero_add, Nat.reduceAdd, and_true] at hc
  have hseq : SeqGives Fence.wide 2 Try.prog 98 #[.pointer (some ⟨Bm, 0, none⟩)] encZ (fun ss => ss.Perm (intKeys (.map (entB L) : DataW Unit))) (Maps.size (.map (entB L) : DataW Unit)) w :=
    AnyZI.keys_gives keysB1_lay Fence.wide _ trivial rfl (by omega) Bm b n _ w hb.lt hc hm
  have cS := AnyZI.sorted_in sortedI_lay Fence.wide 5 trivial trivial trivial trivial rfl (by omega) (sortsI _) (enters_of Try.func96 (by kernel_rfl) rfl) 98 #[.pointer (some ⟨Bm, 0, none⟩)] trivial (enters_of Try.func98 (by kernel_rfl) rfl) _ _ (by rw [entB_size]; unfold maxLen; omega) (by rw [entB_size]; omega) _ hseq
  change CallsIn _ _ Try.prog 73 _ _ _ at cS
  refine ((callsIn_wide (n := 5)).1 cS).mono ?_
  rintro e w' ⟨v, ss, rfl, hS, hrow, _, hbw⟩
  rw [entB_keys] at hS
  have hss := rise_srt hL hS
  have hll : ss.length = L.length := by have := hS.length_eq; simpa using this
  rw [hss, hll] at hrow
  refine ⟨v, rfl, ?_, hbw⟩
  have e : (L.map fun (k : Nat) => (k : Int)).map encZ = ri L := by unfold ri; rw [List.map_map]; rfl
  rw [e] at hrow
  exact hrow
end Go.Proofs.Tb
