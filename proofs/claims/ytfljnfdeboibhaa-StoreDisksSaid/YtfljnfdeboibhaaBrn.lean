/- Regions that branch: whatever order is picked (a law over any program; the first part of Apx). -/
import Derived.Test.YtfljnfdeboibhaaAdvE
set_option linter.unusedVariables false
set_option linter.unusedSimpArgs false
namespace Go.Proofs.Tb
open Go.RowKit

section
variable {P : Program} {ops : Array Oper} {Q : Exit → Act → World → Prop} {md : Region.Mode} {S : World → Prop}
/-- Whatever order is picked; S holds all along. -/
def wpB (P : Program) (md : Region.Mode) (ops : Array Oper) (Q : Exit → Act → World → Prop) (S : World → Prop) (K : Act → World → Prop) : Nat → Array Bool → Act → World → Prop
  | 0, listed, a, w => allB ops listed ∧ K a w
  | f + 1, listed, a, w => (allB ops listed → K a w) ∧ ∀ i ∈ Region.ready md ops listed, wpOp P ops Q i (fun a' w' => S w' ∧ wpB P md ops Q S K f (listed.setIfInBounds i true) a' w') a w
theorem wpB_any (hback : backB md ops = true) : ∀ (f : Nat) (listed : Array Bool) (a : Act) (w : World), listed.size = ops.size → wpB P md ops Q S (fun a w => Q .normal a w) f listed a w → wpAny P md ops Q f listed a w
  | 0, listed, a, w, _, ⟨h1, h2⟩ => by
    refine ⟨?_, h2⟩
    apply Classical.byContradiction
    intro hne
    obtain ⟨i, hi⟩ := List.exists_mem_of_ne_nil _ hne
    exact not_ready_all h1 hi
  | f + 1, listed, a, w, hs, ⟨h1, h2⟩ => by
    refine ⟨fun h0 => h1 fun i hi => ?_, fun i hi => wpOp_mono (fun a' w' h => wpB_any hback f _ a' w' (by simp [hs]) h.2) (h2 i hi)⟩
    apply Classical.byContradiction
    intro hne
    exact some_ready hback hs i i (Nat.le_refl _) hi (by simpa using hne) h0
theorem wpB_first {K : Act → World → Prop} {i : Nat} {oi : Oper} {v : Value} (hi : ops[i]? = some oi) (hsel : ∀ (j : Nat) (o : Oper) cs b, ops[j]? = some o → o.op ≠ .select cs b)
    (hQ : ∀ c a w, Q (.panic c) (a.put oi.dst v) w → Q (.panic c) a w) :
    ∀ (fuel : Nat) (listed : Array Bool) (a : Act) (w : World),
      (∀ j oj, ops[j]? = some oj → j ≠ i → listed.getD j true = false → (∀ e ∈ oj.after, Region.binds md e = true → e.on ≠ i) → oi.apart ops oj = true) →
      i ∈ Region.ready md ops listed → YieldsIf P ops S oi v a → S w →
      wpB P md ops Q S K fuel (listed.setIfInBounds i true) (a.put oi.dst v) w → wpB P md ops Q S K (fuel + 1) listed a w := by
  intro fuel
  induction fuel with
  | zero =>
    intro listed a w _ hr hy hS H
    refine ⟨fun h => (not_ready_all h hr).elim, fun j hj => ?_⟩
    by_cases hji : j = i
    · subst hji; exact hy.wpOp hi hS ⟨hS, H⟩
    · exact (not_ready_all H.1 (ready_mono hj hji)).elim
  | succ fuel ih =>
    intro listed a w hfree hr hy hS H
    refine ⟨fun h => (not_ready_all h hr).elim, fun j hj => ?_⟩
    by_cases hji : j = i
    · subst hji; exact hy.wpOp hi hS ⟨hS, H⟩
    · have h1 := H.2 j (ready_mono hj hji)
      obtain ⟨hjun, oj, hoj, hall⟩ := mem_ready.1 hj
      have hnot : ∀ e ∈ oj.after, Region.binds md e = true → e.on ≠ i := fun e he hb heq => by
        have h1 := hall e he hb
        have h0 := (mem_ready.1 hr).1
        rw [heq, getD_both h0] at h1
        cases h1
      have h2 := wpOp_putIf hoj (hfree j oj hoj hji hjun hnot) (fun cs b => hsel i oi cs b hi) (fun cs b => hsel j oj cs b hoj) hQ hy h1
      have hfree' : ∀ k ok, ops[k]? = some ok → k ≠ i → (listed.setIfInBounds j true).getD k true = false →
          (∀ e ∈ ok.after, Region.binds md e = true → e.on ≠ i) → oi.apart ops ok = true := fun k ok hk hki hun hno => by
        refine hfree k ok hk hki ?_ hno
        by_cases hjk : j = k
        · subst hjk; exact hjun
        · rw [getD_set_ne true hjk] at hun; exact hun
      refine wpOp_mono (fun a' w' h3 => ⟨h3.2.1, ih (listed.setIfInBounds j true) a' w' hfree' (ready_mono hr (Ne.symm hji)) h3.1 h3.2.1 ?_⟩) h2
      rw [Array.setIfInBounds_comm _ _ hji]
      exact h3.2.2
/-- The order in which the operations of a chunk are walked: behind it L' is listed. -/
def seqOkC (md : Region.Mode) (ops : Array Oper) (L' : Array Bool) : List St → Array Bool → Bool
  | [], listed => decide (listed = L')
  | (i, true, d, g) :: is, listed => (match ops[i]? with | some o => o.dst == d && grdOk ops o g | none => false) && Region.free md ops listed i && (Region.ready md ops listed).contains i && seqOkC md ops L' is (listed.setIfInBounds i true)
  | (i, false, d, g) :: is, listed => (match ops[i]? with | some o => o.dst == d && grdOk ops o g | none => false) && decide (Region.ready md ops listed = [i]) && seqOkC md ops L' is (listed.setIfInBounds i true)
def wpSeqB (P : Program) (ops : Array Oper) (Q : Exit → Act → World → Prop) (S : World → Prop) (K : Act → World → Prop) : List St → Act → World → Prop
  | [], a, w => K a w
  | (i, true, d, none) :: is, a, w => ∃ oi v, ops[i]? = some oi ∧ (∀ w, S w → (execOp a.eval oi).run P w = .ok (.value v) w) ∧ wpSeqB P ops Q S K is (a.put d v) w
  | (i, true, d, some (t, b)) :: is, a, w => ∃ g, a.tmps[t]? = some g ∧ ((g = .bool b ∧ ∃ oi v, ops[i]? = some oi ∧ (∀ w, S w → (execOp a.eval oi).run P w = .ok (.value v) w) ∧ wpSeqB P ops Q S K is (a.put d v) w) ∨ (g ≠ .bool b ∧ wpSeqB P ops Q S K is (a.put d undef) w))
  | (i, false, _, none) :: is, a, w => ∃ o, ops[i]? = some o ∧ ∀ K' : Act → World → Prop, Shut (∀ a' w'', S w'' → wpSeqB P ops Q S K is a' w'' → K' a' w'') → Oper.wp P o a w K' Q
  | (i, false, d, some (t, b)) :: is, a, w => ∃ g, a.tmps[t]? = some g ∧ ((g = .bool b ∧ ∃ o, ops[i]? = some o ∧ ∀ K' : Act → World → Prop, Shut (∀ a' w'', S w'' → wpSeqB P ops Q S K is a' w'' → K' a' w'') → Oper.wp P o a w K' Q) ∨
      (g ≠ .bool b ∧ wpSeqB P ops Q S K is (a.put d undef) w))
theorem wpB_chunk {K : Act → World → Prop} {f : Nat} {L' : Array Bool} (hsel : Region.noSelect ops = true) (hQ : ∀ c a d v w, Q (.panic c) (a.put d v) w → Q (.panic c) a w) :
    ∀ (is : List St) (listed : Array Bool) (a : Act) (w : World), seqOkC md ops L' is listed = true → S w → wpSeqB P ops Q S (fun a w => S w → wpB P md ops Q S K f L' a w) is a w → wpB P md ops Q S K (is.length + f) listed a w
  | [], listed, a, w, hB, hS, h => by
    have e : listed = L' := by simpa [seqOkC] using hB
    subst e
    rw [List.length_nil, Nat.zero_add]
    exact h hS
  | (i, true, d, g) :: is, listed, a, w, hB, hS, h => by
    simp only [seqOkC, Bool.and_eq_true] at hB
    obtain ⟨⟨⟨hd, hB1⟩, hB2⟩, hB3⟩ := hB
    rw [List.length_cons, show is.length + 1 + f = is.length + f + 1 by omega]
    cases ho : ops[i]? with
    | none => rw [ho] at hd; cases hd
    | some oi =>
      rw [ho] at hd
      simp only [Bool.and_eq_true, beq_iff_eq] at hd
      obtain ⟨hd, hg⟩ := hd
      subst hd
      have key : ∀ v, YieldsIf P ops S oi v a → wpSeqB P ops Q S (fun a w => S w → wpB P md ops Q S K f L' a w) is (a.put oi.dst v) w → wpB P md ops Q S K (is.length + f + 1) listed a w := fun v hy h3 =>
        wpB_first ho (Region.noSelect_spec hsel) (fun c a w => hQ c a _ _ w) (is.length + f) listed a w (Region.free_spec ho hB1) (by simpa using hB2) hy hS (wpB_chunk hsel hQ is _ _ w hB3 hS h3)
      cases g with
      | none =>
        obtain ⟨oi', v, h1, h2, h3⟩ := h
        obtain rfl : oi = oi' := Option.some.inj (ho.symm.trans h1)
        exact key v (Or.inl ⟨wanted_free hg _, h2⟩) h3
      | some x =>
        obtain ⟨t, b⟩ := x
        obtain ⟨g, hgv, h⟩ := h
        rcases h with ⟨rfl, oi', v, h1, h2, h3⟩ | ⟨hn, h3⟩
        · obtain rfl : oi = oi' := Option.some.inj (ho.symm.trans h1)
          exact key v (Or.inl ⟨wanted_on hg hgv, h2⟩) h3
        · exact key undef (Or.inr ⟨wanted_no hg hgv hn, rfl⟩) h3
  | (i, false, d, g) :: is, listed, a, w, hB, hS, h => by
    simp only [seqOkC, Bool.and_eq_true, decide_eq_true_eq] at hB
    obtain ⟨⟨hd, hB1⟩, hB3⟩ := hB
    rw [List.length_cons, show is.length + 1 + f = is.length + f + 1 by omega]
    refine ⟨fun h0 => (not_ready_all h0 (md := md) (i := i) (by rw [hB1]; simp)).elim, fun j hj => ?_⟩
    rw [hB1] at hj
    have hji : j = i := by simpa using hj
    subst hji
    cases ho : ops[j]? with
    | none => rw [ho] at hd; cases hd
    | some oi =>
      rw [ho] at hd
      simp only [Bool.and_eq_true, beq_iff_eq] at hd
      obtain ⟨hd, hg⟩ := hd
      subst hd
      have on : Region.wanted oi (yielded ops a.tmps) = true → (∃ o, ops[j]? = some o ∧ ∀ K' : Act → World → Prop, Shut (∀ a' w'', S w'' → wpSeqB P ops Q S (fun a w => S w → wpB P md ops Q S K f L' a w) is a' w'' → K' a' w'') → Oper.wp P o a w K' Q) →
          wpOp P ops Q j (fun a' w' => S w' ∧ wpB P md ops Q S K (is.length + f) (listed.setIfInBounds j true) a' w') a w := fun hw h => by
        obtain ⟨o, ho', h⟩ := h
        obtain rfl : oi = o := Option.some.inj (ho.symm.trans ho')
        exact wpOp_on ho hw fun K' hK => h K' fun a' w'' h1 h2 => hK a' w'' ⟨h1, wpB_chunk hsel hQ is _ _ w'' hB3 h1 h2⟩
      cases g with
      | none => exact on (wanted_free hg _) h
      | some x =>
        obtain ⟨t, b⟩ := x
        obtain ⟨g, hgv, h⟩ := h
        rcases h with ⟨rfl, h⟩ | ⟨hn, h3⟩
        · exact on (wanted_on hg hgv) h
        · exact wpOp_off ho (wanted_no hg hgv hn) ⟨hS, wpB_chunk hsel hQ is _ _ w hB3 hS h3⟩
/-- Two operations may come up, neither of them guarded. -/
theorem wpB_two {K : Act → World → Prop} {f : Nat} {listed : Array Bool} {a : Act} {w : World} {oi oj : Oper} (i j : Nat) (hr : decide (Region.ready md ops listed = [i, j]) = true) (hi : ops[i]? = some oi) (hj : ops[j]? = some oj) (gi : oi.guard = none) (gj : oj.guard = none)
    (h1 : ∀ K' : Act → World → Prop, Shut (∀ a' w', S w' → wpB P md ops Q S K f (listed.setIfInBounds i true) a' w' → K' a' w') → Oper.wp P oi a w K' Q)
    (h2 : ∀ K' : Act → World → Prop, Shut (∀ a' w', S w' → wpB P md ops Q S K f (listed.setIfInBounds j true) a' w' → K' a' w') → Oper.wp P oj a w K' Q) :
    wpB P md ops Q S K (f + 1) listed a w := by
  have hr' : Region.ready md ops listed = [i, j] := by simpa using hr
  refine ⟨fun h0 => (not_ready_all h0 (md := md) (i := i) (by rw [hr']; simp)).elim, fun k hk => ?_⟩
  rw [hr'] at hk
  rcases List.mem_cons.1 hk with rfl | hk
  · exact wpOp_on hi (wanted_none gi _) fun K' hK => h1 K' fun a' w' hs h => hK a' w' ⟨hs, h⟩
  · obtain rfl : k = j := by simpa using hk
    exact wpOp_on hj (wanted_none gj _) fun K' hK => h2 K' fun a' w' hs h => hK a' w' ⟨hs, h⟩
def brnB (md : Region.Mode) (ops : Array Oper) : Bool := Region.noSelect ops && backB md ops
/-- A region that draws its order. -/
theorem wp_region_brn {id : Nat} {Q : Exit → Act → World → Prop} {a : Act} {w : World} {l : List Oper} (hm : P.follows .mixedOrders = true) (hB : brnB .any l.toArray = true)
    (hQ0 : ∀ c a (d : Tmp) v w, Q (.panic c) (a.put (some d) v) w ↔ Q (.panic c) a w)
    (h : Region.noSelect l.toArray = true → (∀ c a d v w, Q (.panic c) (a.put d v) w → Q (.panic c) a w) → wpB P .any l.toArray Q S (fun a' w' => Q .normal a' w') l.length (Array.replicate l.length false) a w.drew) : (Code.region id l.toArray true).wp P Q a w := by
  have hQ : ∀ c a d v w, Q (.panic c) (a.put d v) w → Q (.panic c) a w := fun c a d v w h => by
    cases d with
    | none => exact h
    | some d => exact (hQ0 c a d v w).1 h
  simp only [brnB, Bool.and_eq_true] at hB
  refine wp_region_any hm ?_
  rw [List.size_toArray]
  exact wpB_any hB.2 _ _ a _ (by simp) (h hB.1 hQ)
theorem wpB_end {K : Act → World → Prop} {L : Array Bool} {a : Act} {w : World} (hB : ((List.range ops.size).all fun i => L.getD i false) = true) (h : K a w) : wpB P md ops Q S K 0 L a w :=
  ⟨fun i hi => List.all_eq_true.1 hB i (List.mem_range.2 hi), h⟩
theorem wpSeqB_pure {K : Act → World → Prop} {i : Nat} {d : Option Tmp} {is : List St} {a : Act} {w : World} {oi : Oper} {v : Value} (hi : ops[i]? = some oi)
    (hy : ∀ w, S w → (execOp a.eval oi).run P w = .ok (.value v) w) (h : wpSeqB P ops Q S K is (a.put d v) w) : wpSeqB P ops Q S K ((i, true, d, none) :: is) a w := ⟨oi, v, hi, hy, h⟩
theorem wpSeqB_pureG {K : Act → World → Prop} {i : Nat} {d : Option Tmp} {t : Tmp} {b : Bool} {is : List St} {a : Act} {w : World} {oi : Oper} {v : Value} (hi : ops[i]? = some oi) (hg : a.tmps[t]? = some (.bool b))
    (hy : ∀ w, S w → (execOp a.eval oi).run P w = .ok (.value v) w) (h : wpSeqB P ops Q S K is (a.put d v) w) : wpSeqB P ops Q S K ((i, true, d, some (t, b)) :: is) a w := ⟨_, hg, Or.inl ⟨rfl, oi, v, hi, hy, h⟩⟩
theorem wpSeqB_off {K : Act → World → Prop} {i : Nat} {p : Bool} {d : Option Tmp} {t : Tmp} {b g : Bool} {is : List St} {a : Act} {w : World} (hg : a.tmps[t]? = some (.bool g)) (hb : (!b) = g)
    (h : wpSeqB P ops Q S K is (a.put d undef) w) : wpSeqB P ops Q S K ((i, p, d, some (t, b)) :: is) a w := by
  subst hb
  have hn : Value.bool (!b) ≠ .bool b := by cases b <;> simp
  cases p with
  | true => exact ⟨_, hg, Or.inr ⟨hn, h⟩⟩
  | false => exact ⟨_, hg, Or.inr ⟨hn, h⟩⟩
theorem wpSeqB_offU {K : Act → World → Prop} {i : Nat} {p : Bool} {d : Option Tmp} {t : Tmp} {b : Bool} {is : List St} {a : Act} {w : World} (hg : a.tmps[t]? = some undef)
    (h : wpSeqB P ops Q S K is (a.put d undef) w) : wpSeqB P ops Q S K ((i, p, d, some (t, b)) :: is) a w := by
  cases p with
  | true => exact ⟨_, hg, Or.inr ⟨(fun e => by cases e), h⟩⟩
  | false => exact ⟨_, hg, Or.inr ⟨(fun e => by cases e), h⟩⟩
theorem wpSeqB_call {K : Act → World → Prop} {i : Nat} {d : Option Tmp} {is : List St} {a : Act} {w : World} {o : Oper} (hi : ops[i]? = some o)
    (h : ∀ K' : Act → World → Prop, Shut (∀ a' w'', S w'' → wpSeqB P ops Q S K is a' w'' → K' a' w'') → Oper.wp P o a w K' Q) : wpSeqB P ops Q S K ((i, false, d, none) :: is) a w := ⟨o, hi, h⟩
theorem wpSeqB_callG {K : Act → World → Prop} {i : Nat} {d : Option Tmp} {t : Tmp} {b : Bool} {is : List St} {a : Act} {w : World} {o : Oper} (hi : ops[i]? = some o) (hg : a.tmps[t]? = some (.bool b))
    (h : ∀ K' : Act → World → Prop, Shut (∀ a' w'', S w'' → wpSeqB P ops Q S K is a' w'' → K' a' w'') → Oper.wp P o a w K' Q) : wpSeqB P ops Q S K ((i, false, d, some (t, b)) :: is) a w := ⟨_, hg, Or.inl ⟨rfl, o, hi, h⟩⟩
end
end Go.Proofs.Tb
