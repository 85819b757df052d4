/- Contract of probe.solve: the block of the cheapest plans of all sets. -/
import Derived.Test.YtcjddfhhofoidaaDoorPm
set_option linter.unusedVariables false
set_option linter.unusedSimpArgs false
namespace Go.Proofs.Tb
open Go.RowKit
attribute [local go_sem] cell_set_same

def isI0 : Value → Bool
  | .int .i64 x => decide (x = 0)
  | _ => false
theorem isI0_eq {v : Value} (h : isI0 v = true) : v = .int .i64 0 := by
  unfold isI0 at h
  split at h
  · simp at h; rw [h]
  · cases h
theorem zc_all : ((Tryd.zeroCells95.toList.drop 2).all isI0) = true := by kernel_rfl
theorem zc_len : Tryd.zeroCells95.toList.length = 3074 := by kernel_rfl
theorem zc_two : Tryd.zeroCells95.toList.take 2 = [.slice none 0 0, .slice none 0 0] := by kernel_rfl
theorem zc_get (hw hc ht : Nat → Int) (j : Nat) (hj : j < 3074) : Tryd.zeroCells95[j]? = some (plG (.slice none 0 0) (.slice none 0 0) hw hc ht 0 0 0 0 j) := by
  rw [← Array.getElem?_toList]
  by_cases h2 : j < 2
  · have e : Tryd.zeroCells95.toList[j]? = (Tryd.zeroCells95.toList.take 2)[j]? := by rw [List.getElem?_take, if_pos h2]
    rw [e, zc_two]
    obtain rfl | rfl : j = 0 ∨ j = 1 := by omega
    · rfl
    · rfl
  · have hlt : j < Tryd.zeroCells95.toList.length := by rw [zc_len]; exact hj
    have hm : Tryd.zeroCells95.toList[j] ∈ Tryd.zeroCells95.toList.drop 2 := by
      rw [List.mem_iff_getElem]
      refine ⟨j - 2, by rw [List.length_drop]; omega, ?_⟩
      rw [List.getElem_drop]
      congr 1; omega
    rw [List.getElem?_eq_getElem hlt, isI0_eq (List.all_eq_true.1 zc_all _ hm)]
    unfold plG
    rw [if_neg (by omega), if_neg (by omega)]
    simp
theorem PB.new (tv : Value) (hw hc ht : Nat → Int) (w : World) : PB (w.alloc (.cells (Tryd.zeroCells95.setIfInBounds 0 tv) TPL)) w.heap.size (plG tv (.slice none 0 0) hw hc ht 0 0 0 0) := by
  have h1 : Tryd.zeroCells95.size = 3074 := by rw [← Array.length_toList]; exact zc_len
  refine ⟨_, heap_alloc_new w _, by simp [h1], fun j hj => ?_⟩
  rw [Array.getElem?_setIfInBounds]
  by_cases h0 : 0 = j
  · subst h0
    rw [if_pos rfl, if_pos (by omega)]
    rfl
  · rw [if_neg h0, zc_get hw hc ht j hj]
    have h0' : ¬ j = 0 := fun e => h0 e.symm
    unfold plG
    rw [if_neg h0', if_neg h0']
/-- What the tables hold. -/
def pW (ws : List Int) (x : Nat) : Int := (wt (wsN ws) x : Nat)
def pC (ws : List Int) (ts : List Tt) (x : Nat) : Int := ((bst (wsN ws) (tsN ts) x).1 : Nat)
def pT (ws : List Int) (ts : List Tt) (x : Nat) : Int := (bst (wsN ws) (tsN ts) x).2
/-- The set that a test shows. -/
def shw (ts : List Tt) (i : Nat) : Nat := setK (tS ts i) (tS ts i).length
def shL (ts : List Tt) (k : Nat) : List Int := (List.range k).map fun i => (shw ts i : Int)
theorem shL_succ (ts : List Tt) (k : Nat) : shL ts (k + 1) = shL ts k ++ [(shw ts k : Int)] := by unfold shL; rw [List.range_succ, List.map_append]; rfl
theorem shL_len (ts : List Tt) (k : Nat) : (shL ts k).length = k := by simp [shL]
theorem shL_get (ts : List Tt) {k i : Nat} (h : i < k) : (shL ts k).getD i 0 = (shw ts i : Int) := by simp [shL, List.getD, h]
theorem setK_pow (xs : List Int) (n : Nat) (hx : ∀ k, k < xs.length → 0 ≤ xs.getD k 0 ∧ xs.getD k 0 < (n : Int)) : ∀ k, k ≤ xs.length → setK xs k < 2 ^ n := by
  intro k
  induction k with
  | zero => intro _; exact Nat.two_pow_pos n
  | succ k ih =>
    intro hk
    have := hx k (by omega)
    exact Nat.or_lt_two_pow (ih (by omega)) (Nat.pow_lt_pow_right (by omega) (by omega))
theorem pow_le_1024 {n : Nat} (h : n ≤ 10) : 2 ^ n ≤ 1024 := Nat.le_trans (Nat.pow_le_pow_right (by omega) h) (by decide)
section
variable {ws : List Int} {ts : List Tt}
theorem Cv.len10 (h : Cv ws ts) : ws.length ≤ 10 := h.1.2.1
theorem Cv.shw_lt (h : Cv ws ts) {i : Nat} (hi : i < ts.length) : shw ts i < 2 ^ ws.length := setK_pow _ _ (fun k hk => h.shows hi k hk) _ (Nat.le_refl _)
theorem Cv.shw_1024 (h : Cv ws ts) {i : Nat} (hi : i < ts.length) : shw ts i < 1024 := Nat.lt_of_lt_of_le (h.shw_lt hi) (pow_le_1024 h.len10)
/-- The weight of the first k numbers of a set. -/
def pWk (ws : List Int) (s k : Nat) : Int := (wtK (wsN ws) s k : Nat)
theorem pWk_zero (ws : List Int) (s : Nat) : pWk ws s 0 = 0 := rfl
theorem pWk_succ (h : Cv ws ts) (s k : Nat) : pWk ws s (k + 1) = pWk ws s k + if s.testBit k then ws.getD k 0 else 0 := by
  unfold pWk
  rw [wtK]
  have e : (wsN ws).getD k 0 = (ws.getD k 0).toNat := getD_map_nat k
  have h1 := (okF_all h.2.1 k).1
  obtain ⟨q, hq⟩ : ∃ q : Nat, ws.getD k 0 = (q : Int) := ⟨(ws.getD k 0).toNat, by omega⟩
  rw [e, hq, Int.toNat_natCast]
  cases s.testBit k
  · simp
  · simp only [if_true]; omega
theorem pWk_bd (h : Cv ws ts) (s k : Nat) (hk : k ≤ ws.length) : 0 ≤ pWk ws s k ∧ pWk ws s k ≤ 10000 := by
  unfold pWk
  have h1 := wtK_le (wsN ws) (fun j => by rw [show (wsN ws).getD j 0 = (ws.getD j 0).toNat from getD_map_nat j]; have := okF_all h.2.1 j; omega) s k
  have := h.len10
  omega
theorem pWk_end (ws : List Int) (s : Nat) : pWk ws s ws.length = pW ws s := by unfold pWk pW wt; rw [wsN_len]
/-- The cheapest plan of a set as far as k tests show: its cost, and its first test. -/
def pCk (ws : List Int) (ts : List Tt) (s k : Nat) : Int := ((tryL (bst (wsN ws) (tsN ts)) (wt (wsN ws) s) s (tsN ts) k).1 : Nat)
def pTk (ws : List Int) (ts : List Tt) (s k : Nat) : Int := (tryL (bst (wsN ws) (tsN ts)) (wt (wsN ws) s) s (tsN ts) k).2
theorem pCk_zero (s : Nat) : pCk ws ts s 0 = 0 := rfl
theorem pTk_zero (s : Nat) : pTk ws ts s 0 = -1 := rfl
theorem pCk_end (s : Nat) : pCk ws ts s ts.length = pC ws ts s := by unfold pCk pC; rw [bst_eq, tsN_len]
theorem pTk_end (s : Nat) : pTk ws ts s ts.length = pT ws ts s := by unfold pTk pT; rw [bst_eq, tsN_len]
/-- What a test would cost. -/
def pX (ws : List Int) (ts : List Tt) (s k : Nat) : Int := pW ws s * tC ts k + pC ws ts (inn s (shw ts k)) + pC ws ts (outs s (shw ts k))
def pXn (ws : List Int) (ts : List Tt) (s k : Nat) : Nat := wt (wsN ws) s * (tC ts k).toNat + (bst (wsN ws) (tsN ts) (inn s (shw ts k))).1 + (bst (wsN ws) (tsN ts) (outs s (shw ts k))).1
theorem try_cost (h : Cv ws ts) {s k : Nat} (hk : k < ts.length) : (pXn ws ts s k : Int) = pX ws ts s k := by
  unfold pX pXn pW pC
  have h0 := (h.2.2 k hk).1.1
  rw [Int.natCast_add, Int.natCast_add, Int.natCast_mul, Int.toNat_of_nonneg h0]
theorem try_step (ws : List Int) (ts : List Tt) (s k : Nat) : tryL (bst (wsN ws) (tsN ts)) (wt (wsN ws) s) s (tsN ts) (k + 1) =
    if inn s (shw ts k) = 0 ∨ outs s (shw ts k) = 0 then tryL (bst (wsN ws) (tsN ts)) (wt (wsN ws) s) s (tsN ts) k
    else if (tryL (bst (wsN ws) (tsN ts)) (wt (wsN ws) s) s (tsN ts) k).2 = -1 ∨ pXn ws ts s k < (tryL (bst (wsN ws) (tsN ts)) (wt (wsN ws) s) s (tsN ts) k).1 then (pXn ws ts s k, (k : Int)) else tryL (bst (wsN ws) (tsN ts)) (wt (wsN ws) s) s (tsN ts) k := by
  rw [tryL_succ]
  unfold tryT
  rw [tsN_get]
  rfl
theorem try_off {s k : Nat} (h : inn s (shw ts k) = 0 ∨ outs s (shw ts k) = 0) : pCk ws ts s (k + 1) = pCk ws ts s k ∧ pTk ws ts s (k + 1) = pTk ws ts s k := by
  unfold pCk pTk
  rw [try_step, if_pos h]
  exact ⟨rfl, rfl⟩
theorem try_on (h : Cv ws ts) {s k : Nat} (hk : k < ts.length) (h1 : ¬ (inn s (shw ts k) = 0 ∨ outs s (shw ts k) = 0)) (h2 : pTk ws ts s k = -1 ∨ pX ws ts s k < pCk ws ts s k) : pCk ws ts s (k + 1) = pX ws ts s k ∧ pTk ws ts s (k + 1) = (k : Int) := by
  have hc := try_cost h (s := s) hk
  unfold pCk pTk at *
  rw [try_step, if_neg h1, if_pos (h2.imp id fun h => by omega)]
  exact ⟨hc, rfl⟩
theorem try_no (h : Cv ws ts) {s k : Nat} (hk : k < ts.length) (h1 : ¬ (inn s (shw ts k) = 0 ∨ outs s (shw ts k) = 0)) (h2 : ¬ (pTk ws ts s k = -1 ∨ pX ws ts s k < pCk ws ts s k)) : pCk ws ts s (k + 1) = pCk ws ts s k ∧ pTk ws ts s (k + 1) = pTk ws ts s k := by
  have hc := try_cost h (s := s) hk
  unfold pCk pTk at *
  rw [try_step, if_neg h1, if_neg (fun h => h2 (h.imp id fun h => by omega))]
  exact ⟨rfl, rfl⟩
theorem pW_bd (h : Cv ws ts) (s : Nat) : 0 ≤ pW ws s ∧ pW ws s ≤ 10000 := by
  rw [← pWk_end]; exact pWk_bd h s _ (Nat.le_refl _)
theorem pC_bd (h : Cv ws ts) {s : Nat} (hs : s < 1024) : 0 ≤ pC ws ts s ∧ pC ws ts s ≤ 10240000000 := by
  have h1 := bst_le (wsN ws) (tsN ts) (fun s => by have := (pW_bd h s).2; unfold pW at this; omega) (fun i => by
    rw [tsN_get]
    by_cases hi : i < ts.length
    · have := (h.2.2 i hi).1; simp only; omega
    · have e : tC ts i = 0 := by simp [tC, List.getD, Nat.le_of_not_lt hi]
      simp [e]) s
  unfold pC
  omega
theorem pX_bd (h : Cv ws ts) {s k : Nat} (hs : s < 1024) (hk : k < ts.length) : 0 ≤ pW ws s * tC ts k ∧ pW ws s * tC ts k ≤ 10000000 ∧ 0 ≤ pX ws ts s k ∧ pX ws ts s k ≤ 20490000000 := by
  have h1 := pW_bd h s
  have h2 := (h.2.2 k hk).1
  have h3 := pC_bd h (s := inn s (shw ts k)) (Nat.lt_of_le_of_lt (inn_le _ _) hs)
  have h4 := pC_bd h (s := outs s (shw ts k)) (Nat.lt_of_le_of_lt (outs_le _ _) hs)
  have h5 : 0 ≤ pW ws s * tC ts k := Int.mul_nonneg h1.1 h2.1
  have h6 : pW ws s * tC ts k ≤ 10000 * 1000 := Int.mul_le_mul h1.2 h2.2 h2.1 (by omega)
  unfold pX
  omega
end
/-- What solve leaves: the plans in block g. -/
structure SolR (tv : Value) (ws : List Int) (ts : List Tt) (g : Nat) (w : World) : Prop where
  ex : ∃ sv, PB w g (plG tv sv (pW ws) (pC ws ts) (pT ws ts) (2 ^ ws.length) 0 0 0) ∧ OwI (g + 1) w sv (shL ts ts.length)
/-- What is kept while solve is under way. -/
structure Sv (w0 w : World) (g : Nat) (sv : Value) (xs : List Int) (f : Nat → Value) : Prop where
  pb : PB w g f
  ow : OwI (g + 1) w sv xs
  bl : Below w0.heap.size w0 w
section
variable {w0 w w' : World} {g : Nat} {sv : Value} {xs : List Int} {f f' : Nat → Value}
theorem Sv.ext (h : Sv w0 w g sv xs f) (hb : Ext w w') : Sv w0 w' g sv xs f := ⟨h.pb.below hb, h.ow.below hb, bt h.bl hb⟩
theorem Sv.set_ (h : Sv w0 w g sv xs f) (hg : w0.heap.size ≤ g) (j : Nat) (v : Value) (he : ∀ i, i < 3074 → f' i = if i = j then v else f i) : Sv w0 (w.setCell ⟨g, j, none⟩ v) g sv xs f' :=
  ⟨h.pb.set_ j v he, h.ow.far (show g < g + 1 by omega) v, h.bl.setCell hg v⟩
theorem Sv.congr (h : Sv w0 w g sv xs f) (he : ∀ j, j < 3074 → f j = f' j) : Sv w0 w g sv xs f' := ⟨h.pb.congr he, h.ow, h.bl⟩
end
end Go.Proofs.Tb
