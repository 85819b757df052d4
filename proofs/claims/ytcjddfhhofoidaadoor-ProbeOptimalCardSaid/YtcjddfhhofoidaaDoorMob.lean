/- Rows of truth values in memory; whole classes that are marked. -/
import Derived.Test.YtcjddfhhofoidaaDoorGc
import Derived.Test.YtcjddfhhofoidaaDoorPta
import Derived.Test.YtcjddfhhofoidaaDoorGd
set_option linter.unusedVariables false
set_option linter.unusedSimpArgs false
namespace Go.Proofs.Tb
open Go.RowKit


/-- Does a test split a set? -/
def spl (s : Nat) (t : Tst) : Prop := inn s t.2 ≠ 0 ∧ outs s t.2 ≠ 0
theorem tryT_off {c : Nat → Nat × Int} {W s i : Nat} {t : Tst} {b : Nat × Int} (h : ¬ spl s t) : tryT c W s i t b = b := by
  unfold tryT
  rw [if_pos]
  unfold spl at h
  by_cases h1 : inn s t.2 = 0
  · exact Or.inl h1
  · exact Or.inr (Classical.byContradiction fun h2 => h ⟨h1, h2⟩)
theorem tryT_on {c : Nat → Nat × Int} {W s i : Nat} {t : Tst} {b : Nat × Int} (h : spl s t) : tryT c W s i t b = if b.2 = -1 ∨ W * t.1 + (c (inn s t.2)).1 + (c (outs s t.2)).1 < b.1 then (W * t.1 + (c (inn s t.2)).1 + (c (outs s t.2)).1, (i : Int)) else b := by
  unfold tryT
  rw [if_neg (fun h' => h'.elim h.1 h.2)]
/-- No test so far splits the set: nothing is found; one that does: a plan of at most its cost is found. -/
theorem tryL_none {c : Nat → Nat × Int} {W s : Nat} {ts : List Tst} : ∀ {k : Nat}, (∀ i, i < k → ¬ spl s (ts.getD i (0, 0))) → tryL c W s ts k = (0, -1) := by
  intro k
  induction k with
  | zero => intro _; rfl
  | succ k ih =>
    intro h
    rw [tryL_succ, tryT_off (h k (by omega)), ih fun i hi => h i (by omega)]
theorem tryL_min {c : Nat → Nat × Int} {W s : Nat} {ts : List Tst} : ∀ {k i : Nat}, i < k → spl s (ts.getD i (0, 0)) →
    (tryL c W s ts k).2 ≠ -1 ∧ (tryL c W s ts k).1 ≤ W * (ts.getD i (0, 0)).1 + (c (inn s (ts.getD i (0, 0)).2)).1 + (c (outs s (ts.getD i (0, 0)).2)).1 := by
  intro k
  induction k with
  | zero => intro i h; omega
  | succ k ih =>
    intro i hi hs
    rw [tryL_succ]
    by_cases hk : spl s (ts.getD k (0, 0))
    · rw [tryT_on hk]
      rcases Nat.lt_or_eq_of_le (Nat.le_of_lt_succ hi) with h1 | rfl
      · have h2 := ih h1 hs
        split
        · rename_i h3
          refine ⟨by simp only; omega, ?_⟩
          rcases h3 with h3 | h3
          · exact absurd h3 h2.1
          · simp only; omega
        · exact h2
      · split
        · exact ⟨by simp only; omega, Nat.le_refl _⟩
        · rename_i h3
          exact ⟨fun e => h3 (Or.inl e), by have : ¬ _ := fun h => h3 (Or.inr h); omega⟩
    · rw [tryT_off hk]
      rcases Nat.lt_or_eq_of_le (Nat.le_of_lt_succ hi) with h1 | rfl
      · exact ih h1 hs
      · exact absurd hs hk
/-- The cheapest plan costs at most what any test that splits does. -/
theorem bst_min {ws : List Nat} {ts : List Tst} {s i : Nat} (hi : i < ts.length) (hs : spl s (ts.getD i (0, 0))) :
    (bst ws ts s).1 ≤ wt ws s * (ts.getD i (0, 0)).1 + (bst ws ts (inn s (ts.getD i (0, 0)).2)).1 + (bst ws ts (outs s (ts.getD i (0, 0)).2)).1 := by
  rw [bst_eq]
  exact (tryL_min hi hs).2
theorem bst_none {ws : List Nat} {ts : List Tst} {s : Nat} (h : ∀ i, i < ts.length → ¬ spl s (ts.getD i (0, 0))) : bst ws ts s = (0, -1) := by
  rw [bst_eq]
  exact tryL_none h
theorem spl_lt {s : Nat} {t : Tst} (h : spl s t) : inn s t.2 < s ∧ outs s t.2 < s := by
  have := in_out s t.2
  have h1 := h.1
  have h2 := h.2
  omega
/-- A test more. -/
theorem bst_more {ws : List Nat} {ts : List Tst} {t : Tst} (ht : ∀ s, s < 2 ^ ws.length → spl s t → ∃ i, i < ts.length ∧ spl s (ts.getD i (0, 0))) : ∀ s, s < 2 ^ ws.length → (bst ws (ts ++ [t]) s).1 ≤ (bst ws ts s).1 := by
  intro s
  induction s using Nat.strongRecOn with
  | _ s ih =>
    intro hs
    by_cases hn : ∃ i, i < ts.length ∧ spl s (ts.getD i (0, 0))
    · rcases bst_inv ws ts s with hv | ⟨i, hi, _, a1, a2, hc⟩
      · obtain ⟨i, hi, hsp⟩ := hn
        have h1 := (tryL_min (c := bst ws ts) (W := wt ws s) hi hsp).1
        rw [← bst_eq, hv] at h1
        exact absurd rfl h1
      · have e : (ts ++ [t]).getD i (0, 0) = ts.getD i (0, 0) := by simp only [List.getD]; rw [List.getElem?_append_left hi]
        have hl := spl_lt (t := ts.getD i (0, 0)) ⟨a1, a2⟩
        have h1 := bst_min (ws := ws) (ts := ts ++ [t]) (s := s) (i := i) (by simp; omega) (by rw [e]; exact ⟨a1, a2⟩)
        rw [e] at h1
        have h2 := ih _ hl.1 (by omega)
        have h3 := ih _ hl.2 (by omega)
        omega
    · have h1 : ∀ i, i < (ts ++ [t]).length → ¬ spl s ((ts ++ [t]).getD i (0, 0)) := fun i hi hsp => by
        by_cases h : i < ts.length
        · have e : (ts ++ [t]).getD i (0, 0) = ts.getD i (0, 0) := by simp only [List.getD]; rw [List.getElem?_append_left h]
          rw [e] at hsp
          exact hn ⟨i, h, hsp⟩
        · have e : (ts ++ [t]).getD i (0, 0) = t := by
            have : i = ts.length := by simp at hi; omega
            subst this
            simp [List.getD]
          rw [e] at hsp
          exact hn (ht s hs hsp)
      rw [bst_none h1]
      exact Nat.zero_le _
/-- A test splits a set of faults: two of them, one that it shows and one that it does not. -/
theorem spl_ex {n s m : Nat} (hs : s < 2 ^ n) (h : inn s m ≠ 0 ∧ outs s m ≠ 0) : ∃ i j, i < n ∧ j < n ∧ s.testBit i = true ∧ s.testBit j = true ∧ m.testBit i = true ∧ m.testBit j = false := by
  obtain ⟨i, hi, hbi⟩ := bit_ex (Nat.lt_of_le_of_lt (inn_le s m) hs) h.1
  obtain ⟨j, hj, hbj⟩ := bit_ex (Nat.lt_of_le_of_lt (outs_le s m) hs) h.2
  rw [inn_bit, Bool.and_eq_true] at hbi
  rw [outs_bit, Bool.and_eq_true] at hbj
  exact ⟨i, j, hi, hj, hbi.1, hbj.1, hbi.2, by simpa using hbj.2⟩
theorem spl_of {s m i j : Nat} (hi : s.testBit i = true) (hj : s.testBit j = true) (h : m.testBit i ≠ m.testBit j) : inn s m ≠ 0 ∧ outs s m ≠ 0 := by
  have key : ∀ i j, s.testBit i = true → s.testBit j = true → m.testBit i = true → m.testBit j = false → inn s m ≠ 0 ∧ outs s m ≠ 0 := fun i j hi hj h1 h2 => by
    refine ⟨fun e => ?_, fun e => ?_⟩
    · have := inn_bit s m i
      rw [e, hi, h1] at this
      simp at this
    · have := outs_bit s m j
      rw [e, hj, h2] at this
      simp at this
  cases h1 : m.testBit i with
  | true => exact key i j hi hj h1 (by rw [h1] at h; simpa using h.symm)
  | false => exact key j i hj hi (by rw [h1] at h; simpa using h.symm) h1
/-- Faults of different patterns are split by a test. -/
theorem pat_spl {ws : List Int} {ts : List Tt} (h : Cv ws ts) {s i j : Nat} (hi : s.testBit i = true) (hj : s.testBit j = true) (hp : pat ts (i : Int) ≠ pat ts (j : Int)) : ∃ k, k < (tsN ts).length ∧ spl s ((tsN ts).getD k (0, 0)) := by
  have h1 : ∃ k, k < ts.length ∧ shB (tS ts k) (i : Int) ≠ shB (tS ts k) (j : Int) := by
    refine Classical.byContradiction fun hn => hp ?_
    refine List.ext_getElem (by simp [pat]) fun k h1 h2 => ?_
    have hk : k < ts.length := by simpa [pat] using h1
    have h3 : shB (tS ts k) (i : Int) = shB (tS ts k) (j : Int) := Classical.byContradiction fun h4 => hn ⟨k, hk, h4⟩
    have e : tS ts k = ts[k].2 := by simp [tS, List.getD, hk]
    rw [e] at h3
    simpa [pat] using h3
  obtain ⟨k, hk, hne⟩ := h1
  rw [shB_bit (fun q hq => (h.shows hk q hq).1), shB_bit (fun q hq => (h.shows hk q hq).1)] at hne
  refine ⟨k, by rw [tsN_len]; exact hk, ?_⟩
  rw [tsN_get]
  exact spl_of hi hj hne
theorem tsN_snoc (ts : List Tt) (t : Tt) : tsN (ts ++ [t]) = tsN ts ++ [(t.1.toNat, setK t.2 t.2.length)] := by unfold tsN; rw [List.map_append]; rfl
/-- A test that shows whole classes makes nothing dearer. -/
theorem pC_more {ws : List Int} {ts : List Tt} {t : Tt} (h : Cv ws ts) (ht0 : ∀ k, k < t.2.length → 0 ≤ t.2.getD k 0) (hcl : ∀ i j : Nat, i < ws.length → j < ws.length → pat ts (i : Int) = pat ts (j : Int) → shB t.2 (i : Int) = shB t.2 (j : Int)) {s : Nat} (hs : s < 2 ^ ws.length) :
    pC ws (ts ++ [t]) s ≤ pC ws ts s := by
  unfold pC
  rw [tsN_snoc]
  have h1 := bst_more (ws := wsN ws) (ts := tsN ts) (t := (t.1.toNat, setK t.2 t.2.length)) (fun s hs hsp => by
    rw [wsN_len] at hs
    obtain ⟨i, j, hi, hj, hbi, hbj, hmi, hmj⟩ := spl_ex hs hsp
    refine pat_spl h hbi hbj fun e => ?_
    have h2 := hcl i j hi hj e
    rw [shB_bit ht0, shB_bit ht0, hmi, hmj] at h2
    cases h2) s (by rw [wsN_len]; exact hs)
  omega
abbrev TBO : TypeId := 4
abbrev TBL : TypeId := 61
theorem bool_info : (Tryd.prog.info? TBO).map (fun i => (i.zero, i.size, i.bytes)) = some (some (.bool false), 1, 1) := by kernel_rfl
def bc (bs : List Bool) : List Value := bs.map .bool
set_option maxRecDepth 100000 in
theorem make_B (n : Nat) (hn : n ≤ 1000000) (W : World) : (Instr.makeSlice TBL (.int .i64 (n : Int)) (.int .i64 (n : Int))).run Tryd.prog W = .ok (.slice (some ⟨W.heap.size, 0, none⟩) n n) (W.alloc (.cells (bc (List.replicate n false)).toArray TBO)) := by
  obtain ⟨i, hi, hz, hs, hb⟩ := info_parts bool_info
  have hm : madeCells (Value.cells (.bool false)) (n * 1) = (bc (List.replicate n false)).toArray := by
    apply Array.ext'
    apply List.ext_getElem?
    intro j
    simp only [madeCells, bc, Nat.mul_one, Array.toList_map, Value.cells]
    by_cases hj : j < n
    · simp [hj, Nat.mod_one]
    · simp [hj]
  rw [run_make (P := Tryd.prog) W TBL TBO i _ Tryd.underlying61 hi hz .i64 .i64 n n (by omega) (by omega) (by rw [hb]; omega) (by omega)]
  simp only [Int.toNat_natCast, hs, hm]
def BB (w : World) (B : Nat) (bs : List Bool) : Prop := Blk w B TBO (bc bs).toArray
theorem BB.cell {w : World} {B : Nat} {bs : List Bool} (h : BB w B bs) {j : Nat} (hj : j < bs.length) : w.cell? ⟨B, j, none⟩ = some (.bool (bs.getD j false)) := by
  rw [cell_of_row w B j _ TBO (0, 0) h]
  simp [bc, List.getD, hj]
theorem BB.set_ {w : World} {B : Nat} {bs : List Bool} (h : BB w B bs) (j : Nat) (v : Bool) : BB (w.setCell ⟨B, j, none⟩ (.bool v)) B (bs.set j v) := by
  have := Blk.set_ h j (.bool v)
  unfold BB bc
  rw [List.map_set]
  simpa [bc] using this
theorem BB.free {w : World} {B : Nat} {bs : List Bool} (h : BB w B bs) (j : Nat) : w.frozen? ⟨B, j, none⟩ = false := Blk.free (show Blk w B TBO _ from h) j
theorem BB.below {w w' : World} {B : Nat} {bs : List Bool} (h : BB w B bs) (hb : Below w.heap.size w w') : BB w' B bs := Blk.below (show Blk w B TBO _ from h) hb

/-- Numbers that are marked. -/
def setT : List Bool → List Int → List Bool
  | bs, [] => bs
  | bs, x :: xs => setT (bs.set x.toNat true) xs
theorem setT_len (xs : List Int) : ∀ bs, (setT bs xs).length = bs.length := by
  induction xs with
  | nil => intro bs; rfl
  | cons x xs ih => intro bs; unfold setT; rw [ih, List.length_set]
theorem setT_snoc (xs : List Int) (x : Int) : ∀ bs, setT bs (xs ++ [x]) = (setT bs xs).set x.toNat true := by
  induction xs with
  | nil => intro bs; rfl
  | cons y xs ih => intro bs; exact ih _
theorem getD_set_bool (l : List Bool) (i j : Nat) (v : Bool) : (l.set i v).getD j false = if i = j ∧ i < l.length then v else l.getD j false := by
  simp only [List.getD, List.getElem?_set]
  by_cases h : i = j
  · subst h
    by_cases h2 : i < l.length
    · simp [h2]
    · simp [h2]
  · simp [h]
theorem setT_get (xs : List Int) : ∀ (bs : List Bool), (∀ x ∈ xs, 0 ≤ x) → ∀ j, j < bs.length → (setT bs xs).getD j false = (bs.getD j false || decide ((j : Int) ∈ xs)) := by
  induction xs with
  | nil => intro bs _ j _; simp [setT]
  | cons x xs ih =>
    intro bs h j hj
    have hx := h x (List.mem_cons_self ..)
    rw [setT, ih _ (fun y hy => h y (List.mem_cons_of_mem _ hy)) j (by rw [List.length_set]; exact hj), getD_set_bool]
    by_cases e : x.toNat = j
    · rw [if_pos ⟨e, by omega⟩]
      have : (j : Int) ∈ x :: xs := by
        have : (j : Int) = x := by omega
        rw [this]; exact List.mem_cons_self ..
      simp [this]
    · rw [if_neg (fun h => e h.1)]
      have : ((j : Int) ∈ x :: xs) ↔ (j : Int) ∈ xs := by
        rw [List.mem_cons]
        exact ⟨fun h => h.elim (fun h => absurd h (by omega)) id, Or.inr⟩
      simp only [this]
/-- Whole classes alone are marked. -/
def mkd (n : Nat) (ts : List Tt) (bs : List Bool) : Prop := bs.length = n ∧ ∀ i j : Nat, i < n → j < n → pat ts (i : Int) = pat ts (j : Int) → bs.getD i false = bs.getD j false
theorem mkd_zero (n : Nat) (ts : List Tt) : mkd n ts (List.replicate n false) := ⟨by simp, fun i j hi hj _ => by simp [List.getD, hi, hj]⟩
theorem mkd_cls {n : Nat} {ts : List Tt} {bs : List Bool} (h : mkd n ts bs) {c : List Int} (hc : c ∈ clsT n ts) : mkd n ts (setT bs c) := by
  have ho := clsT_ok n ts
  refine ⟨by rw [setT_len]; exact h.1, fun i j hi hj hp => ?_⟩
  have hnn : ∀ x ∈ c, 0 ≤ x := fun x hx => (ho.rng hc hx).1
  rw [setT_get c bs hnn i (by rw [h.1]; exact hi), setT_get c bs hnn j (by rw [h.1]; exact hj), h.2 i j hi hj hp]
  congr 1
  have key : ∀ i j : Nat, i < n → j < n → pat ts (i : Int) = pat ts (j : Int) → (i : Int) ∈ c → (j : Int) ∈ c := fun i j hi hj hp hx =>
    (ho.mem hc hx).2 ⟨upL_mem'.2 ⟨by omega, by omega⟩, hp.symm⟩
  by_cases hx : (i : Int) ∈ c
  · simp [hx, key i j hi hj hp hx]
  · have : ¬ (j : Int) ∈ c := fun h => hx (key j i hj hi hp.symm h)
    simp [hx, this]
/-- The numbers that are marked, rising. -/
def mkL (bs : List Bool) (k : Nat) : List Int := (upL k).filter fun x => bs.getD x.toNat false
theorem mkL_succ (bs : List Bool) (k : Nat) : mkL bs (k + 1) = mkL bs k ++ if bs.getD k false then [(k : Int)] else [] := by
  unfold mkL
  rw [upL_succ, List.filter_append]
  congr 1
  cases h : bs.getD k false <;> simp only [List.filter_cons, List.filter_nil, Int.toNat_natCast, h, if_true, if_false, Bool.false_eq_true]
theorem mkL_mem {bs : List Bool} {k : Nat} {x : Int} : x ∈ mkL bs k ↔ (0 ≤ x ∧ x < (k : Int)) ∧ bs.getD x.toNat false = true := by
  unfold mkL
  rw [List.mem_filter, upL_mem']
theorem mkL_len (bs : List Bool) (k : Nat) : (mkL bs k).length ≤ k := Nat.le_trans (List.length_filter_le _ _) (Nat.le_of_eq (upL_len k))
theorem ris_upL (n : Nat) : (upL n).Pairwise (· < ·) := by
  unfold upL
  rw [List.pairwise_map]
  exact List.pairwise_lt_range.imp (fun h => by omega)
/-- A list of rising numbers from 0 below n. -/
theorem ris_of {l : List Int} {n : Int} (h : l.Pairwise (· < ·)) (hb : ∀ x ∈ l, 0 ≤ x ∧ x < n) : Ris l n := fun k hk => by
  have e : l.getD k 0 = l[k] := by simp [List.getD, hk]
  have hm := hb l[k] (List.getElem_mem hk)
  rw [e]
  refine ⟨?_, hm.2⟩
  cases k with
  | zero => rw [prv_zero]; omega
  | succ k =>
    rw [prv_succ]
    have e2 : l.getD k 0 = l[k] := by simp [List.getD, show k < l.length by omega]
    rw [e2]
    exact List.pairwise_iff_getElem.1 h k (k + 1) (by omega) hk (by omega)
theorem mkL_ris (bs : List Bool) (k : Nat) : Ris (mkL bs k) (k : Int) :=
  ris_of (List.Pairwise.sublist List.filter_sublist (ris_upL k)) fun x hx => (mkL_mem.1 hx).1
/-- The new test. -/
theorem more_cv {ws : List Int} {ts : List Tt} (h : Cv ws ts) (hm : ts.length ≤ 15) {bs : List Bool} {x : Int} (hx : 0 ≤ x ∧ x ≤ 1000) : Cv ws (ts ++ [(x, mkL bs ws.length)]) := by
  refine ⟨⟨h.1.1, h.1.2.1, by simp; omega⟩, h.2.1, fun j hj => ?_⟩
  by_cases hjt : j < ts.length
  · have e : (ts ++ [(x, mkL bs ws.length)]).getD j (0, []) = ts.getD j (0, []) := by simp only [List.getD]; rw [List.getElem?_append_left hjt]
    unfold tC tS
    rw [e]
    exact h.2.2 j hjt
  · have hjj : j = ts.length := by simp at hj; omega
    subst hjj
    have e : (ts ++ [(x, mkL bs ws.length)]).getD ts.length (0, []) = (x, mkL bs ws.length) := by simp [List.getD]
    unfold tC tS
    rw [e]
    exact ⟨hx, mkL_ris _ _⟩
theorem more_le {ws : List Int} {ts : List Tt} (h : Cv ws ts) {bs : List Bool} (hb : mkd ws.length ts bs) {x : Int} : pC ws (ts ++ [(x, mkL bs ws.length)]) (allS ws) ≤ pC ws ts (allS ws) := by
  refine pC_more h (fun k hk => ((mkL_ris bs ws.length).bd k hk).1) (fun i j hi hj hp => ?_) (allS_lt ws)
  have key : ∀ i : Nat, i < ws.length → shB (mkL bs ws.length) (i : Int) = bs.getD i false := fun i hi => by
    unfold shB
    have : ((i : Int) ∈ mkL bs ws.length) ↔ bs.getD i false = true := by
      rw [mkL_mem, Int.toNat_natCast]
      exact ⟨fun h => h.2, fun h => ⟨⟨by omega, by omega⟩, h⟩⟩
    simp only [this]
    simp
  show shB (mkL bs ws.length) (i : Int) = shB (mkL bs ws.length) (j : Int)
  rw [key i hi, key j hj]
  exact hb.2 i j hi hj hp
theorem clsT_pos {n : Nat} (ts : List Tt) (h : 1 ≤ n) : 1 ≤ (clsT n ts).length := by
  obtain ⟨c, hc, _⟩ := (clsT_ok n ts).cov 0 (upL_mem'.2 ⟨by omega, by omega⟩)
  exact List.length_pos_of_mem hc
/-- The new test's cost. -/
theorem cost_rng (y : Int) : ∃ x : Int, (0 ≤ x ∧ x ≤ 1000) ∧ (wrap64 (wrap64 (y.tmod 1001 + 1000) + 1)).tmod 1001 = x := by
  have hL : (0 : Int) < 1001 := by omega
  have a1 := Int.tmod_lt_of_pos y hL
  have a2 := Int.lt_tmod_of_pos y hL
  obtain ⟨r, hr⟩ : ∃ r, y.tmod 1001 = r := ⟨_, rfl⟩
  rw [hr] at a1 a2 ⊢
  have hw : wrap64 (wrap64 (r + 1000) + 1) = r + 1000 + 1 := by unfold wrap64; omega
  rw [hw]
  have b1 := Int.tmod_lt_of_pos (r + 1000 + 1) hL
  have b2 := Int.tmod_nonneg 1001 (show 0 ≤ r + 1000 + 1 by omega)
  exact ⟨_, ⟨b2, by omega⟩, rfl⟩
/-- A number taken round. -/
theorem cyc (x : Int) (L : Nat) (h1 : 1 ≤ L) (h2 : L ≤ 1000000) : ∃ e : Nat, e < L ∧ (wrap64 (x.tmod L + L)).tmod L = (e : Int) := by
  have hL : (0 : Int) < (L : Int) := by omega
  have a1 := Int.tmod_lt_of_pos x hL
  have a2 := Int.lt_tmod_of_pos x hL
  obtain ⟨r, hr⟩ : ∃ r, x.tmod (L : Int) = r := ⟨_, rfl⟩
  rw [hr] at a1 a2 ⊢
  have hw : wrap64 (r + L) = r + L := by unfold wrap64; omega
  rw [hw]
  have b1 := Int.tmod_lt_of_pos (r + L) hL
  have b2 := Int.tmod_nonneg (L : Int) (show 0 ≤ r + L by omega)
  exact ⟨((r + L).tmod L).toNat, by omega, by omega⟩
end Go.Proofs.Tb
