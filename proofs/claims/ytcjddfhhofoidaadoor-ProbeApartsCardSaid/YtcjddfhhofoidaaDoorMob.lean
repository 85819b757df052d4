/- Rows of truth values in memory; whole classes that are marked. -/
import Derived.Test.YtcjddfhhofoidaaDoorMoa
import Derived.Test.YtcjddfhhofoidaaDoorGd
set_option linter.unusedVariables false
set_option linter.unusedSimpArgs false
namespace Go.Proofs.Tb
open Go.RowKit

abbrev TBO : TypeId := 4
abbrev TBL : TypeId := 61
theorem bool_info : (Tryd.prog.info? TBO).map (fun i => (i.zero, i.size, i.bytes)) = some (some (.bool false), 1, 1) := by kernel_rfl
def bc (bs : List Bool) : List Value := bs.map .bool
set_option maxRecDepth 100000 in
theorem make_B (n : Nat) (hn : n ≤ 1000000) (W : World) : (Instr.makeSlice TBL (.int .i64 (n : Int)) (.int .i64 (n : Int))).run Tryd.prog W = .ok (.slice (some ⟨W.heap.size, 0, none⟩) n n) (W.alloc (.cells (bc (List.replicate n false)).toArray TBO)) := by
  obtain ⟨i, hi, hz, hs, hb⟩ := info_parts bool_info
  have hm : madeCells (Value.cells (.bool false)) (n * 1) = (bc (List.replicate n false)).toArray := by
    apply Array.ext'
    apply List.ext_getElem?
    intro j
    simp only [madeCells, bc, Nat.mul_one, Array.toList_map, Value.cells]
    by_cases hj : j < n
    · simp [hj, Nat.mod_one]
    · simp [hj]
  rw [run_make (P := Tryd.prog) W TBL TBO i _ Tryd.underlying61 hi hz .i64 .i64 n n (by omega) (by omega) (by rw [hb]; omega) (by omega)]
  simp only [Int.toNat_natCast, hs, hm]
def BB (w : World) (B : Nat) (bs : List Bool) : Prop := Blk w B TBO (bc bs).toArray
theorem BB.cell {w : World} {B : Nat} {bs : List Bool} (h : BB w B bs) {j : Nat} (hj : j < bs.length) : w.cell? ⟨B, j, none⟩ = some (.bool (bs.getD j false)) := by
  rw [cell_of_row w B j _ TBO (0, 0) h]
  simp [bc, List.getD, hj]
theorem BB.set_ {w : World} {B : Nat} {bs : List Bool} (h : BB w B bs) (j : Nat) (v : Bool) : BB (w.setCell ⟨B, j, none⟩ (.bool v)) B (bs.set j v) := by
  have := Blk.set_ h j (.bool v)
  unfold BB bc
  rw [List.map_set]
  simpa [bc] using this
theorem BB.free {w : World} {B : Nat} {bs : List Bool} (h : BB w B bs) (j : Nat) : w.frozen? ⟨B, j, none⟩ = false := Blk.free (show Blk w B TBO _ from h) j
theorem BB.below {w w' : World} {B : Nat} {bs : List Bool} (h : BB w B bs) (hb : Below w.heap.size w w') : BB w' B bs := Blk.below (show Blk w B TBO _ from h) hb

/-- Numbers that are marked. -/
def setT : List Bool → List Int → List Bool
  | bs, [] => bs
  | bs, x :: xs => setT (bs.set x.toNat true) xs
theorem setT_len (xs : List Int) : ∀ bs, (setT bs xs).length = bs.length := by
  induction xs with
  | nil => intro bs; rfl
  | cons x xs ih => intro bs; unfold setT; rw [ih, List.length_set]
theorem setT_snoc (xs : List Int) (x : Int) : ∀ bs, setT bs (xs ++ [x]) = (setT bs xs).set x.toNat true := by
  induction xs with
  | nil => intro bs; rfl
  | cons y xs ih => intro bs; exact ih _
theorem getD_set_bool (l : List Bool) (i j : Nat) (v : Bool) : (l.set i v).getD j false = if i = j ∧ i < l.length then v else l.getD j false := by
  simp only [List.getD, List.getElem?_set]
  by_cases h : i = j
  · subst h
    by_cases h2 : i < l.length
    · simp [h2]
    · simp [h2]
  · simp [h]
theorem setT_get (xs : List Int) : ∀ (bs : List Bool), (∀ x ∈ xs, 0 ≤ x) → ∀ j, j < bs.length → (setT bs xs).getD j false = (bs.getD j false || decide ((j : Int) ∈ xs)) := by
  induction xs with
  | nil => intro bs _ j _; simp [setT]
  | cons x xs ih =>
    intro bs h j hj
    have hx := h x (List.mem_cons_self ..)
    rw [setT, ih _ (fun y hy => h y (List.mem_cons_of_mem _ hy)) j (by rw [List.length_set]; exact hj), getD_set_bool]
    by_cases e : x.toNat = j
    · rw [if_pos ⟨e, by omega⟩]
      have : (j : Int) ∈ x :: xs := by
        have : (j : Int) = x := by omega
        rw [this]; exact List.mem_cons_self ..
      simp [this]
    · rw [if_neg (fun h => e h.1)]
      have : ((j : Int) ∈ x :: xs) ↔ (j : Int) ∈ xs := by
        rw [List.mem_cons]
        exact ⟨fun h => h.elim (fun h => absurd h (by omega)) id, Or.inr⟩
      simp only [this]
/-- Whole classes alone are marked. -/
def mkd (n : Nat) (ts : List Tt) (bs : List Bool) : Prop := bs.length = n ∧ ∀ i j : Nat, i < n → j < n → pat ts (i : Int) = pat ts (j : Int) → bs.getD i false = bs.getD j false
theorem mkd_zero (n : Nat) (ts : List Tt) : mkd n ts (List.replicate n false) := ⟨by simp, fun i j hi hj _ => by simp [List.getD, hi, hj]⟩
theorem mkd_cls {n : Nat} {ts : List Tt} {bs : List Bool} (h : mkd n ts bs) {c : List Int} (hc : c ∈ clsT n ts) : mkd n ts (setT bs c) := by
  have ho := clsT_ok n ts
  refine ⟨by rw [setT_len]; exact h.1, fun i j hi hj hp => ?_⟩
  have hnn : ∀ x ∈ c, 0 ≤ x := fun x hx => (ho.rng hc hx).1
  rw [setT_get c bs hnn i (by rw [h.1]; exact hi), setT_get c bs hnn j (by rw [h.1]; exact hj), h.2 i j hi hj hp]
  congr 1
  have key : ∀ i j : Nat, i < n → j < n → pat ts (i : Int) = pat ts (j : Int) → (i : Int) ∈ c → (j : Int) ∈ c := fun i j hi hj hp hx =>
    (ho.mem hc hx).2 ⟨upL_mem'.2 ⟨by omega, by omega⟩, hp.symm⟩
  by_cases hx : (i : Int) ∈ c
  · simp [hx, key i j hi hj hp hx]
  · have : ¬ (j : Int) ∈ c := fun h => hx (key j i hj hi hp.symm h)
    simp [hx, this]
/-- The numbers that are marked, rising. -/
def mkL (bs : List Bool) (k : Nat) : List Int := (upL k).filter fun x => bs.getD x.toNat false
theorem mkL_succ (bs : List Bool) (k : Nat) : mkL bs (k + 1) = mkL bs k ++ if bs.getD k false then [(k : Int)] else [] := by
  unfold mkL
  rw [upL_succ, List.filter_append]
  congr 1
  cases h : bs.getD k false <;> simp only [List.filter_cons, List.filter_nil, Int.toNat_natCast, h, if_true, if_false, Bool.false_eq_true]
theorem mkL_mem {bs : List Bool} {k : Nat} {x : Int} : x ∈ mkL bs k ↔ (0 ≤ x ∧ x < (k : Int)) ∧ bs.getD x.toNat false = true := by
  unfold mkL
  rw [List.mem_filter, upL_mem']
theorem mkL_len (bs : List Bool) (k : Nat) : (mkL bs k).length ≤ k := Nat.le_trans (List.length_filter_le _ _) (Nat.le_of_eq (upL_len k))
theorem ris_upL (n : Nat) : (upL n).Pairwise (· < ·) := by
  unfold upL
  rw [List.pairwise_map]
  exact List.pairwise_lt_range.imp (fun h => by omega)
/-- A list of rising numbers from 0 below n. -/
theorem ris_of {l : List Int} {n : Int} (h : l.Pairwise (· < ·)) (hb : ∀ x ∈ l, 0 ≤ x ∧ x < n) : Ris l n := fun k hk => by
  have e : l.getD k 0 = l[k] := by simp [List.getD, hk]
  have hm := hb l[k] (List.getElem_mem hk)
  rw [e]
  refine ⟨?_, hm.2⟩
  cases k with
  | zero => rw [prv_zero]; omega
  | succ k =>
    rw [prv_succ]
    have e2 : l.getD k 0 = l[k] := by simp [List.getD, show k < l.length by omega]
    rw [e2]
    exact List.pairwise_iff_getElem.1 h k (k + 1) (by omega) hk (by omega)
theorem mkL_ris (bs : List Bool) (k : Nat) : Ris (mkL bs k) (k : Int) :=
  ris_of (List.Pairwise.sublist List.filter_sublist (ris_upL k)) fun x hx => (mkL_mem.1 hx).1
/-- The new test. -/
theorem more_cv {ws : List Int} {ts : List Tt} (h : Cv ws ts) (hm : ts.length ≤ 15) {bs : List Bool} {x : Int} (hx : 0 ≤ x ∧ x ≤ 1000) : Cv ws (ts ++ [(x, mkL bs ws.length)]) := by
  refine ⟨⟨h.1.1, h.1.2.1, by simp; omega⟩, h.2.1, fun j hj => ?_⟩
  by_cases hjt : j < ts.length
  · have e : (ts ++ [(x, mkL bs ws.length)]).getD j (0, []) = ts.getD j (0, []) := by simp only [List.getD]; rw [List.getElem?_append_left hjt]
    unfold tC tS
    rw [e]
    exact h.2.2 j hjt
  · have hjj : j = ts.length := by simp at hj; omega
    subst hjj
    have e : (ts ++ [(x, mkL bs ws.length)]).getD ts.length (0, []) = (x, mkL bs ws.length) := by simp [List.getD]
    unfold tC tS
    rw [e]
    exact ⟨hx, mkL_ris _ _⟩
theorem more_le {ws : List Int} {ts : List Tt} (h : Cv ws ts) {bs : List Bool} (hb : mkd ws.length ts bs) {x : Int} : pC ws (ts ++ [(x, mkL bs ws.length)]) (allS ws) ≤ pC ws ts (allS ws) := by
  refine pC_more h (fun k hk => ((mkL_ris bs ws.length).bd k hk).1) (fun i j hi hj hp => ?_) (allS_lt ws)
  have key : ∀ i : Nat, i < ws.length → shB (mkL bs ws.length) (i : Int) = bs.getD i false := fun i hi => by
    unfold shB
    have : ((i : Int) ∈ mkL bs ws.length) ↔ bs.getD i false = true := by
      rw [mkL_mem, Int.toNat_natCast]
      exact ⟨fun h => h.2, fun h => ⟨⟨by omega, by omega⟩, h⟩⟩
    simp only [this]
    simp
  show shB (mkL bs ws.length) (i : Int) = shB (mkL bs ws.length) (j : Int)
  rw [key i hi, key j hj]
  exact hb.2 i j hi hj hp
theorem clsT_pos {n : Nat} (ts : List Tt) (h : 1 ≤ n) : 1 ≤ (clsT n ts).length := by
  obtain ⟨c, hc, _⟩ := (clsT_ok n ts).cov 0 (upL_mem'.2 ⟨by omega, by omega⟩)
  exact List.length_pos_of_mem hc
/-- The new test's cost. -/
theorem cost_rng (y : Int) : ∃ x : Int, (0 ≤ x ∧ x ≤ 1000) ∧ (wrap64 (wrap64 (y.tmod 1001 + 1000) + 1)).tmod 1001 = x := by
  have hL : (0 : Int) < 1001 := by omega
  have a1 := Int.tmod_lt_of_pos y hL
  have a2 := Int.lt_tmod_of_pos y hL
  obtain ⟨r, hr⟩ : ∃ r, y.tmod 1001 = r := ⟨_, rfl⟩
  rw [hr] at a1 a2 ⊢
  have hw : wrap64 (wrap64 (r + 1000) + 1) = r + 1000 + 1 := by unfold wrap64; omega
  rw [hw]
  have b1 := Int.tmod_lt_of_pos (r + 1000 + 1) hL
  have b2 := Int.tmod_nonneg 1001 (show 0 ≤ r + 1000 + 1 by omega)
  exact ⟨_, ⟨b2, by omega⟩, rfl⟩
/-- A number taken round. -/
theorem cyc (x : Int) (L : Nat) (h1 : 1 ≤ L) (h2 : L ≤ 1000000) : ∃ e : Nat, e < L ∧ (wrap64 (x.tmod L + L)).tmod L = (e : Int) := by
  have hL : (0 : Int) < (L : Int) := by omega
  have a1 := Int.tmod_lt_of_pos x hL
  have a2 := Int.lt_tmod_of_pos x hL
  obtain ⟨r, hr⟩ : ∃ r, x.tmod (L : Int) = r := ⟨_, rfl⟩
  rw [hr] at a1 a2 ⊢
  have hw : wrap64 (r + L) = r + L := by unfold wrap64; omega
  rw [hw]
  have b1 := Int.tmod_lt_of_pos (r + L) hL
  have b2 := Int.tmod_nonneg (L : Int) (show 0 ≤ r + L by omega)
  exact ⟨((r + L).tmod L).toNat, by omega, by omega⟩
end Go.Proofs.Tb
