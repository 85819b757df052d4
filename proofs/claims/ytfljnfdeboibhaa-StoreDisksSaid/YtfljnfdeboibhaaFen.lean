/- Regions that branch, inside a fence that lets every call by (Brn, turned). -/
import Derived.Test.YtfljnfdeboibhaaBrn
import Derived.OrdersIn
set_option linter.unusedVariables false
set_option linter.unusedSimpArgs false
namespace Go.Proofs.Tb
open Go.RowKit

section
variable {F : Fence} {n : Nat} {P : Program} {ops : Array Oper} {Q : Exit → Act → World → Prop} {md : Region.Mode} {S : World → Prop}
theorem yi_wpOpIn (hro : F.round = none) (hfn : ∀ f, F.fn f) {i : Nat} {o : Oper} {v : Value} {a : Act} (hi : ops[i]? = some o) (hy : YieldsIf P ops S o v a)
    {K : Act → World → Prop} {w : World} (hS : S w) (h : K (a.put o.dst v) w) : wpOpIn F n P ops Q i K a w := by
  unfold Go.wpOpIn
  simp only [hi]
  rcases hy with ⟨hw, hv⟩ | ⟨hw, rfl⟩
  · simp only [hw, if_true, Oper.wpIn, hro, Oper.semAt_none, hv w hS, Oper.uponIn]; exact ⟨fun f _ => hfn f, h⟩
  · simp only [hw, Bool.false_eq_true, if_false]; exact ⟨fun f _ => hfn f, h⟩
theorem wpOpIn_putIf (hro : F.round = none) {j : Nat} {oi oj : Oper} {v : Value} (hj : ops[j]? = some oj) (hap : oi.apart ops oj = true)
    (hsi : ∀ cs b, oi.op ≠ .select cs b) (hsj : ∀ cs b, oj.op ≠ .select cs b)
    (hQ : ∀ c a w, Q (.panic c) (a.put oi.dst v) w → Q (.panic c) a w) {K : Act → World → Prop} {a : Act} {w : World}
    (hy : YieldsIf P ops S oi v a) (h : wpOpIn F n P ops Q j K (a.put oi.dst v) w) :
    wpOpIn F n P ops Q j (fun a' w' => YieldsIf P ops S oi v a' ∧ K (a'.put oi.dst v) w') a w := by
  obtain ⟨h1, h2, h3⟩ := Oper.apart_spec hap
  have keep : ∀ (a : Act), YieldsIf P ops S oi v a → ∀ u, YieldsIf P ops S oi v (a.put oj.dst u) := fun a hy u =>
    hy.of_same (execOp_put oi hsi a oj.dst u h3) (wanted_put oi a oj.dst u h3)
  have keepD : ∀ d, YieldsIf P ops S oi v { a with defers := d :: a.defers } := fun d => hy.of_same rfl rfl
  unfold wpOpIn at *
  simp only [hj] at *
  rw [wanted_put oj a oi.dst v h1, about_put oj w a oi.dst v h1] at h
  split
  · rename_i hw
    simp only [hw, if_true] at h
    unfold Oper.wpIn at *
    rw [about_put oj w a oi.dst v h1] at h
    refine ⟨h.1, ?_⟩
    have h := h.2
    rw [hro, Oper.semAt_none, execOp_put oj hsj a oi.dst v h1] at h
    rw [hro, Oper.semAt_none]
    generalize (execOp a.eval oj).run P w = r at *
    cases r with
    | ok x w' =>
      cases x <;> simp only [Oper.uponIn] at h ⊢
      case value u => exact ⟨keep a hy u, by rw [← Act.put_comm a v u h2]; exact h⟩
      case skip => exact ⟨keep a hy _, by rw [← Act.put_comm a v undef h2]; exact h⟩
      case defer d =>
        refine ⟨keep _ (keepD d) _, ?_⟩
        rw [← Act.put_comm _ v undef h2, ← Act.put_defers]
        exact h
      case enter f args =>
        refine ⟨h.1, CallsIn.mono h.2 fun e w'' he => ?_⟩
        cases e with
        | returned u => exact ⟨keep a hy u, by rw [← Act.put_comm a v u h2]; exact he⟩
        | panicked c => exact hQ _ _ _ he
        | outgrown => exact he
      case row row args => exact ⟨h.1, RowsIn.mono h.2 fun u w'' he => ⟨keep a hy u, by rw [← Act.put_comm a v u h2]; exact he⟩⟩
      case round l f tmps assign body =>
        refine ⟨h.1, RoundIn.mono h.2 fun e w'' he => ?_⟩
        cases e with
        | returned u => exact ⟨keep a hy u, by rw [← Act.put_comm a v u h2]; exact he⟩
        | panicked c => exact hQ _ _ _ he
        | outgrown => exact he
    | halt x w' =>
      cases x <;> simp only [Oper.uponIn] at h ⊢
      case panic u => exact hQ _ _ _ h
  · rename_i hw
    simp only [hw] at h
    exact ⟨h.1, keep a hy _, by rw [← Act.put_comm a v undef h2]; exact h.2⟩
theorem wpOpIn_on (_ : ∀ f, F.fn f) {i : Nat} {o : Oper} {K : Act → World → Prop} {a : Act} {w : World} (ho : ops[i]? = some o) (hw : Region.wanted o (yielded ops a.tmps) = true) (h : ∀ K' : Act → World → Prop, (∀ a w, K a w → K' a w) → Oper.wpIn F n P o a w K' Q) : wpOpIn F n P ops Q i K a w :=
  wpOpIn_step ho fun K' hK => by rw [if_pos hw]; exact h K' hK
theorem wpOpIn_off (hfn : ∀ f, F.fn f) {i : Nat} {o : Oper} {K : Act → World → Prop} {a : Act} {w : World} (ho : ops[i]? = some o) (hw : Region.wanted o (yielded ops a.tmps) = false) (h : K (a.put o.dst undef) w) : wpOpIn F n P ops Q i K a w :=
  wpOpIn_step ho fun K' hK => by rw [if_neg (by rw [hw]; decide)]; exact ⟨fun f _ => hfn f, hK _ _ h⟩
end
section
variable {F : Fence} {n : Nat} {P : Program} {ops : Array Oper} {Q : Exit → Act → World → Prop} {md : Region.Mode} {S : World → Prop}
/-- Whatever order is picked; S holds all along. -/
def wpBI (F : Fence) (n : Nat) (P : Program) (md : Region.Mode) (ops : Array Oper) (Q : Exit → Act → World → Prop) (S : World → Prop) (K : Act → World → Prop) : Nat → Array Bool → Act → World → Prop
  | 0, listed, a, w => allB ops listed ∧ K a w
  | f + 1, listed, a, w => (allB ops listed → K a w) ∧ ∀ i ∈ Region.ready md ops listed, wpOpIn F n P ops Q i (fun a' w' => S w' ∧ wpBI F n P md ops Q S K f (listed.setIfInBounds i true) a' w') a w
theorem wpBI_any (hback : backB md ops = true) : ∀ (f : Nat) (listed : Array Bool) (a : Act) (w : World), listed.size = ops.size → wpBI F n P md ops Q S (fun a w => Q .normal a w) f listed a w → wpAnyIn F n P md ops Q f listed a w
  | 0, listed, a, w, _, ⟨h1, h2⟩ => by
    refine ⟨?_, h2⟩
    apply Classical.byContradiction
    intro hne
    obtain ⟨i, hi⟩ := List.exists_mem_of_ne_nil _ hne
    exact not_ready_all h1 hi
  | f + 1, listed, a, w, hs, ⟨h1, h2⟩ => by
    refine ⟨fun h0 => h1 fun i hi => ?_, fun i hi => wpOpIn_mono (fun a' w' h => wpBI_any hback f _ a' w' (by simp [hs]) h.2) (h2 i hi)⟩
    apply Classical.byContradiction
    intro hne
    exact some_ready hback hs i i (Nat.le_refl _) hi (by simpa using hne) h0
theorem wpBI_first (hro : F.round = none) (hfn : ∀ f, F.fn f) {K : Act → World → Prop} {i : Nat} {oi : Oper} {v : Value} (hi : ops[i]? = some oi) (hsel : ∀ (j : Nat) (o : Oper) cs b, ops[j]? = some o → o.op ≠ .select cs b)
    (hQ : ∀ c a w, Q (.panic c) (a.put oi.dst v) w → Q (.panic c) a w) :
    ∀ (fuel : Nat) (listed : Array Bool) (a : Act) (w : World),
      (∀ j oj, ops[j]? = some oj → j ≠ i → listed.getD j true = false → (∀ e ∈ oj.after, Region.binds md e = true → e.on ≠ i) → oi.apart ops oj = true) →
      i ∈ Region.ready md ops listed → YieldsIf P ops S oi v a → S w →
      wpBI F n P md ops Q S K fuel (listed.setIfInBounds i true) (a.put oi.dst v) w → wpBI F n P md ops Q S K (fuel + 1) listed a w := by
  intro fuel
  induction fuel with
  | zero =>
    intro listed a w _ hr hy hS H
    refine ⟨fun h => (not_ready_all h hr).elim, fun j hj => ?_⟩
    by_cases hji : j = i
    · subst hji; exact yi_wpOpIn hro hfn hi hy hS ⟨hS, H⟩
    · exact (not_ready_all H.1 (ready_mono hj hji)).elim
  | succ fuel ih =>
    intro listed a w hfree hr hy hS H
    refine ⟨fun h => (not_ready_all h hr).elim, fun j hj => ?_⟩
    by_cases hji : j = i
    · subst hji; exact yi_wpOpIn hro hfn hi hy hS ⟨hS, H⟩
    · have h1 := H.2 j (ready_mono hj hji)
      obtain ⟨hjun, oj, hoj, hall⟩ := mem_ready.1 hj
      have hnot : ∀ e ∈ oj.after, Region.binds md e = true → e.on ≠ i := fun e he hb heq => by
        have h1 := hall e he hb
        have h0 := (mem_ready.1 hr).1
        rw [heq, getD_both h0] at h1
        cases h1
      have h2 := wpOpIn_putIf hro hoj (hfree j oj hoj hji hjun hnot) (fun cs b => hsel i oi cs b hi) (fun cs b => hsel j oj cs b hoj) hQ hy h1
      have hfree' : ∀ k ok, ops[k]? = some ok → k ≠ i → (listed.setIfInBounds j true).getD k true = false →
          (∀ e ∈ ok.after, Region.binds md e = true → e.on ≠ i) → oi.apart ops ok = true := fun k ok hk hki hun hno => by
        refine hfree k ok hk hki ?_ hno
        by_cases hjk : j = k
        · subst hjk; exact hjun
        · rw [getD_set_ne true hjk] at hun; exact hun
      refine wpOpIn_mono (fun a' w' h3 => ⟨h3.2.1, ih (listed.setIfInBounds j true) a' w' hfree' (ready_mono hr (Ne.symm hji)) h3.1 h3.2.1 ?_⟩) h2
      rw [Array.setIfInBounds_comm _ _ hji]
      exact h3.2.2
def wpSeqBI (F : Fence) (n : Nat) (P : Program) (ops : Array Oper) (Q : Exit → Act → World → Prop) (S : World → Prop) (K : Act → World → Prop) : List St → Act → World → Prop
  | [], a, w => K a w
  | (i, true, d, none) :: is, a, w => ∃ oi v, ops[i]? = some oi ∧ (∀ w, S w → (execOp a.eval oi).run P w = .ok (.value v) w) ∧ wpSeqBI F n P ops Q S K is (a.put d v) w
  | (i, true, d, some (t, b)) :: is, a, w => ∃ g, a.tmps[t]? = some g ∧ ((g = .bool b ∧ ∃ oi v, ops[i]? = some oi ∧ (∀ w, S w → (execOp a.eval oi).run P w = .ok (.value v) w) ∧ wpSeqBI F n P ops Q S K is (a.put d v) w) ∨ (g ≠ .bool b ∧ wpSeqBI F n P ops Q S K is (a.put d undef) w))
  | (i, false, _, none) :: is, a, w => ∃ o, ops[i]? = some o ∧ ∀ K' : Act → World → Prop, Shut (∀ a' w'', S w'' → wpSeqBI F n P ops Q S K is a' w'' → K' a' w'') → Oper.wpIn F n P o a w K' Q
  | (i, false, d, some (t, b)) :: is, a, w => ∃ g, a.tmps[t]? = some g ∧ ((g = .bool b ∧ ∃ o, ops[i]? = some o ∧ ∀ K' : Act → World → Prop, Shut (∀ a' w'', S w'' → wpSeqBI F n P ops Q S K is a' w'' → K' a' w'') → Oper.wpIn F n P o a w K' Q) ∨
      (g ≠ .bool b ∧ wpSeqBI F n P ops Q S K is (a.put d undef) w))
theorem wpBI_chunk (hro : F.round = none) (hfn : ∀ f, F.fn f) {K : Act → World → Prop} {f : Nat} {L' : Array Bool} (hsel : Region.noSelect ops = true) (hQ : ∀ c a d v w, Q (.panic c) (a.put d v) w → Q (.panic c) a w) :
    ∀ (is : List St) (listed : Array Bool) (a : Act) (w : World), seqOkC md ops L' is listed = true → S w → wpSeqBI F n P ops Q S (fun a w => S w → wpBI F n P md ops Q S K f L' a w) is a w → wpBI F n P md ops Q S K (is.length + f) listed a w
  | [], listed, a, w, hB, hS, h => by
    have e : listed = L' := by simpa [seqOkC] using hB
    subst e
    rw [List.length_nil, Nat.zero_add]
    exact h hS
  | (i, true, d, g) :: is, listed, a, w, hB, hS, h => by
    simp only [seqOkC, Bool.and_eq_true] at hB
    obtain ⟨⟨⟨hd, hB1⟩, hB2⟩, hB3⟩ := hB
    rw [List.length_cons, show is.length + 1 + f = is.length + f + 1 by omega]
    cases ho : ops[i]? with
    | none => rw [ho] at hd; cases hd
    | some oi =>
      rw [ho] at hd
      simp only [Bool.and_eq_true, beq_iff_eq] at hd
      obtain ⟨hd, hg⟩ := hd
      subst hd
      have key : ∀ v, YieldsIf P ops S oi v a → wpSeqBI F n P ops Q S (fun a w => S w → wpBI F n P md ops Q S K f L' a w) is (a.put oi.dst v) w → wpBI F n P md ops Q S K (is.length + f + 1) listed a w := fun v hy h3 =>
        wpBI_first hro hfn ho (Region.noSelect_spec hsel) (fun c a w => hQ c a _ _ w) (is.length + f) listed a w (Region.free_spec ho hB1) (by simpa using hB2) hy hS (wpBI_chunk hro hfn hsel hQ is _ _ w hB3 hS h3)
      cases g with
      | none =>
        obtain ⟨oi', v, h1, h2, h3⟩ := h
        obtain rfl : oi = oi' := Option.some.inj (ho.symm.trans h1)
        exact key v (Or.inl ⟨wanted_free hg _, h2⟩) h3
      | some x =>
        obtain ⟨t, b⟩ := x
        obtain ⟨g, hgv, h⟩ := h
        rcases h with ⟨rfl, oi', v, h1, h2, h3⟩ | ⟨hn, h3⟩
        · obtain rfl : oi = oi' := Option.some.inj (ho.symm.trans h1)
          exact key v (Or.inl ⟨wanted_on hg hgv, h2⟩) h3
        · exact key undef (Or.inr ⟨wanted_no hg hgv hn, rfl⟩) h3
  | (i, false, d, g) :: is, listed, a, w, hB, hS, h => by
    simp only [seqOkC, Bool.and_eq_true, decide_eq_true_eq] at hB
    obtain ⟨⟨hd, hB1⟩, hB3⟩ := hB
    rw [List.length_cons, show is.length + 1 + f = is.length + f + 1 by omega]
    refine ⟨fun h0 => (not_ready_all h0 (md := md) (i := i) (by rw [hB1]; simp)).elim, fun j hj => ?_⟩
    rw [hB1] at hj
    have hji : j = i := by simpa using hj
    subst hji
    cases ho : ops[j]? with
    | none => rw [ho] at hd; cases hd
    | some oi =>
      rw [ho] at hd
      simp only [Bool.and_eq_true, beq_iff_eq] at hd
      obtain ⟨hd, hg⟩ := hd
      subst hd
      have on : Region.wanted oi (yielded ops a.tmps) = true → (∃ o, ops[j]? = some o ∧ ∀ K' : Act → World → Prop, Shut (∀ a' w'', S w'' → wpSeqBI F n P ops Q S (fun a w => S w → wpBI F n P md ops Q S K f L' a w) is a' w'' → K' a' w'') → Oper.wpIn F n P o a w K' Q) →
          wpOpIn F n P ops Q j (fun a' w' => S w' ∧ wpBI F n P md ops Q S K (is.length + f) (listed.setIfInBounds j true) a' w') a w := fun hw h => by
        obtain ⟨o, ho', h⟩ := h
        obtain rfl : oi = o := Option.some.inj (ho.symm.trans ho')
        exact wpOpIn_on hfn ho hw fun K' hK => h K' fun a' w'' h1 h2 => hK a' w'' ⟨h1, wpBI_chunk hro hfn hsel hQ is _ _ w'' hB3 h1 h2⟩
      cases g with
      | none => exact on (wanted_free hg _) h
      | some x =>
        obtain ⟨t, b⟩ := x
        obtain ⟨g, hgv, h⟩ := h
        rcases h with ⟨rfl, h⟩ | ⟨hn, h3⟩
        · exact on (wanted_on hg hgv) h
        · exact wpOpIn_off hfn ho (wanted_no hg hgv hn) ⟨hS, wpBI_chunk hro hfn hsel hQ is _ _ w hB3 hS h3⟩
/-- Two operations may come up, neither of them guarded. -/
theorem wpBI_two (hro : F.round = none) (hfn : ∀ f, F.fn f) {K : Act → World → Prop} {f : Nat} {listed : Array Bool} {a : Act} {w : World} {oi oj : Oper} (i j : Nat) (hr : decide (Region.ready md ops listed = [i, j]) = true) (hi : ops[i]? = some oi) (hj : ops[j]? = some oj) (gi : oi.guard = none) (gj : oj.guard = none)
    (h1 : ∀ K' : Act → World → Prop, Shut (∀ a' w', S w' → wpBI F n P md ops Q S K f (listed.setIfInBounds i true) a' w' → K' a' w') → Oper.wpIn F n P oi a w K' Q)
    (h2 : ∀ K' : Act → World → Prop, Shut (∀ a' w', S w' → wpBI F n P md ops Q S K f (listed.setIfInBounds j true) a' w' → K' a' w') → Oper.wpIn F n P oj a w K' Q) :
    wpBI F n P md ops Q S K (f + 1) listed a w := by
  have hr' : Region.ready md ops listed = [i, j] := by simpa using hr
  refine ⟨fun h0 => (not_ready_all h0 (md := md) (i := i) (by rw [hr']; simp)).elim, fun k hk => ?_⟩
  rw [hr'] at hk
  rcases List.mem_cons.1 hk with rfl | hk
  · exact wpOpIn_on hfn hi (wanted_none gi _) fun K' hK => h1 K' fun a' w' hs h => hK a' w' ⟨hs, h⟩
  · obtain rfl : k = j := by simpa using hk
    exact wpOpIn_on hfn hj (wanted_none gj _) fun K' hK => h2 K' fun a' w' hs h => hK a' w' ⟨hs, h⟩
/-- A region that draws its order. -/
theorem wp_region_brnI (hro : F.round = none) (hfn : ∀ f, F.fn f) {id : Nat} {Q : Exit → Act → World → Prop} {a : Act} {w : World} {l : List Oper} (hm : P.follows .mixedOrders = true) (hB : brnB .any l.toArray = true)
    (hQ0 : ∀ c a (d : Tmp) v w, Q (.panic c) (a.put (some d) v) w ↔ Q (.panic c) a w)
    (h : Region.noSelect l.toArray = true → (∀ c a d v w, Q (.panic c) (a.put d v) w → Q (.panic c) a w) → wpBI F n P .any l.toArray Q S (fun a' w' => Q .normal a' w') l.length (Array.replicate l.length false) a w.drew) : (Code.region id l.toArray true).wpIn F n P Q a w := by
  have hQ : ∀ c a d v w, Q (.panic c) (a.put d v) w → Q (.panic c) a w := fun c a d v w h => by
    cases d with
    | none => exact h
    | some d => exact (hQ0 c a d v w).1 h
  simp only [brnB, Bool.and_eq_true] at hB
  refine wpIn_region_any hm ?_
  rw [List.size_toArray]
  exact wpBI_any hB.2 _ _ a _ (by simp) (h hB.1 hQ)
theorem wpBI_end {K : Act → World → Prop} {L : Array Bool} {a : Act} {w : World} (hB : ((List.range ops.size).all fun i => L.getD i false) = true) (h : K a w) : wpBI F n P md ops Q S K 0 L a w :=
  ⟨fun i hi => List.all_eq_true.1 hB i (List.mem_range.2 hi), h⟩
theorem wpSeqBI_pure {K : Act → World → Prop} {i : Nat} {d : Option Tmp} {is : List St} {a : Act} {w : World} {oi : Oper} {v : Value} (hi : ops[i]? = some oi)
    (hy : ∀ w, S w → (execOp a.eval oi).run P w = .ok (.value v) w) (h : wpSeqBI F n P ops Q S K is (a.put d v) w) : wpSeqBI F n P ops Q S K ((i, true, d, none) :: is) a w := ⟨oi, v, hi, hy, h⟩
theorem wpSeqBI_pureG {K : Act → World → Prop} {i : Nat} {d : Option Tmp} {t : Tmp} {b : Bool} {is : List St} {a : Act} {w : World} {oi : Oper} {v : Value} (hi : ops[i]? = some oi) (hg : a.tmps[t]? = some (.bool b))
    (hy : ∀ w, S w → (execOp a.eval oi).run P w = .ok (.value v) w) (h : wpSeqBI F n P ops Q S K is (a.put d v) w) : wpSeqBI F n P ops Q S K ((i, true, d, some (t, b)) :: is) a w := ⟨_, hg, Or.inl ⟨rfl, oi, v, hi, hy, h⟩⟩
theorem wpSeqBI_off {K : Act → World → Prop} {i : Nat} {p : Bool} {d : Option Tmp} {t : Tmp} {b g : Bool} {is : List St} {a : Act} {w : World} (hg : a.tmps[t]? = some (.bool g)) (hb : (!b) = g)
    (h : wpSeqBI F n P ops Q S K is (a.put d undef) w) : wpSeqBI F n P ops Q S K ((i, p, d, some (t, b)) :: is) a w := by
  subst hb
  have hn : Value.bool (!b) ≠ .bool b := by cases b <;> simp
  cases p with
  | true => exact ⟨_, hg, Or.inr ⟨hn, h⟩⟩
  | false => exact ⟨_, hg, Or.inr ⟨hn, h⟩⟩
theorem wpSeqBI_offU {K : Act → World → Prop} {i : Nat} {p : Bool} {d : Option Tmp} {t : Tmp} {b : Bool} {is : List St} {a : Act} {w : World} (hg : a.tmps[t]? = some undef)
    (h : wpSeqBI F n P ops Q S K is (a.put d undef) w) : wpSeqBI F n P ops Q S K ((i, p, d, some (t, b)) :: is) a w := by
  cases p with
  | true => exact ⟨_, hg, Or.inr ⟨(fun e => by cases e), h⟩⟩
  | false => exact ⟨_, hg, Or.inr ⟨(fun e => by cases e), h⟩⟩
theorem wpSeqBI_call {K : Act → World → Prop} {i : Nat} {d : Option Tmp} {is : List St} {a : Act} {w : World} {o : Oper} (hi : ops[i]? = some o)
    (h : ∀ K' : Act → World → Prop, Shut (∀ a' w'', S w'' → wpSeqBI F n P ops Q S K is a' w'' → K' a' w'') → Oper.wpIn F n P o a w K' Q) : wpSeqBI F n P ops Q S K ((i, false, d, none) :: is) a w := ⟨o, hi, h⟩
theorem wpSeqBI_callG {K : Act → World → Prop} {i : Nat} {d : Option Tmp} {t : Tmp} {b : Bool} {is : List St} {a : Act} {w : World} {o : Oper} (hi : ops[i]? = some o) (hg : a.tmps[t]? = some (.bool b))
    (h : ∀ K' : Act → World → Prop, Shut (∀ a' w'', S w'' → wpSeqBI F n P ops Q S K is a' w'' → K' a' w'') → Oper.wpIn F n P o a w K' Q) : wpSeqBI F n P ops Q S K ((i, false, d, some (t, b)) :: is) a w := ⟨_, hg, Or.inl ⟨rfl, o, hi, h⟩⟩
end
/-- What an operation comes behind is listed when it is. -/
def dcD (md : Region.Mode) (ops : Array Oper) (listed : Array Bool) : Prop := ∀ k o, ops[k]? = some o → listed.getD k false = true → ∀ e ∈ o.after, Region.binds md e = true → listed.getD e.on false = true
theorem dcD_none (md : Region.Mode) (ops : Array Oper) (n : Nat) : dcD md ops (Array.replicate n false) := fun k o _ hk => by
  have : (Array.replicate n false).getD k false = false := by simp [Array.getD, Array.getElem?_replicate]
  rw [this] at hk
  cases hk
theorem dcD_set {md : Region.Mode} {ops : Array Oper} {listed : Array Bool} (h : dcD md ops listed) {i : Nat} (hi : i ∈ Region.ready md ops listed) : dcD md ops (listed.setIfInBounds i true) := fun k o ho hk e he hb => by
  by_cases hki : k = i
  · subst hki
    obtain ⟨_, o', ho', hall⟩ := mem_ready.1 hi
    obtain rfl : o = o' := Option.some.inj (ho.symm.trans ho')
    exact getD_set_true (hall e he hb)
  · rw [getD_set_ne false (Ne.symm hki)] at hk
    exact getD_set_true (h k o ho hk e he hb)
/-- An operation that all others come ahead of, or behind. -/
def CutOk (md : Region.Mode) (ops : Array Oper) (j : Nat) : Prop := ∀ listed, dcD md ops listed → j ∈ Region.ready md ops listed → ∀ i ∈ Region.ready md ops listed, i = j
def ancB (md : Region.Mode) (ops : Array Oper) : List Nat → List Nat → Bool
  | _, [] => true
  | done, k :: ks => (done.any fun m => match ops[m]? with | some o => o.after.any (fun e => Region.binds md e && e.on == k) | none => false) && ancB md ops (k :: done) ks
def desB (md : Region.Mode) (ops : Array Oper) : List Nat → List Nat → Bool
  | _, [] => true
  | done, k :: ks => (match ops[k]? with | some o => o.after.any (fun e => Region.binds md e && done.contains e.on) | none => false) && desB md ops (k :: done) ks
theorem ancB_ok {md : Region.Mode} {ops : Array Oper} {listed : Array Bool} (hd : dcD md ops listed) : ∀ {todo done : List Nat}, (∀ m ∈ done, ∀ o, ops[m]? = some o → ∀ e ∈ o.after, Region.binds md e = true → listed.getD e.on false = true) → ancB md ops done todo = true → ∀ k ∈ todo, listed.getD k false = true
  | [], _, _, _, k, hk => by cases hk
  | q :: ks, done, h, hB, k, hk => by
    simp only [ancB, Bool.and_eq_true, List.any_eq_true] at hB
    obtain ⟨⟨m, hm, h1⟩, h2⟩ := hB
    have hq : listed.getD q false = true := by
      cases ho : ops[m]? with
      | none => rw [ho] at h1; cases h1
      | some o =>
        rw [ho] at h1
        simp only [Array.any_eq_true', Bool.and_eq_true, beq_iff_eq] at h1
        obtain ⟨e, he, hb, rfl⟩ := h1
        exact h m hm o ho e he hb
    rcases List.mem_cons.1 hk with rfl | hk
    · exact hq
    · refine ancB_ok hd (fun m' hm' o ho e he hb => ?_) h2 k hk
      rcases List.mem_cons.1 hm' with rfl | hm'
      · exact hd m' o ho hq e he hb
      · exact h m' hm' o ho e he hb
theorem desB_ok {md : Region.Mode} {ops : Array Oper} {listed : Array Bool} (hd : dcD md ops listed) : ∀ {todo done : List Nat}, (∀ m ∈ done, listed.getD m false = false) → desB md ops done todo = true → ∀ k ∈ todo, k ∉ Region.ready md ops listed
  | [], _, _, _, k, hk => by cases hk
  | q :: ks, done, h, hB, k, hk => by
    simp only [desB, Bool.and_eq_true] at hB
    obtain ⟨h1, h2⟩ := hB
    cases ho : ops[q]? with
    | none => rw [ho] at h1; cases h1
    | some o =>
      rw [ho] at h1
      simp only [Array.any_eq_true', Bool.and_eq_true, List.contains_iff_mem] at h1
      obtain ⟨e, he, hb, hm⟩ := h1
      have hu := h _ hm
      have hq : listed.getD q false = false := by
        cases hq : listed.getD q false with
        | false => rfl
        | true => rw [hd q o ho hq e he hb] at hu; cases hu
      rcases List.mem_cons.1 hk with rfl | hk
      · intro hr
        obtain ⟨_, o', ho', hall⟩ := mem_ready.1 hr
        obtain rfl : o = o' := Option.some.inj (ho.symm.trans ho')
        rw [hall e he hb] at hu
        cases hu
      · refine desB_ok hd (fun m hm => ?_) h2 k hk
        rcases List.mem_cons.1 hm with rfl | hm
        · exact hq
        · exact h m hm
def cutB (md : Region.Mode) (ops : Array Oper) (j : Nat) (A D : List Nat) : Bool := ancB md ops [j] A && desB md ops [j] D && (List.range ops.size).all fun k => k == j || A.contains k || D.contains k
theorem cutOk_of {md : Region.Mode} {ops : Array Oper} {j : Nat} {A D : List Nat} (h : cutB md ops j A D = true) : CutOk md ops j := fun listed hd hj i hi => by
  simp only [cutB, Bool.and_eq_true, List.all_eq_true, List.mem_range, Bool.or_eq_true, beq_iff_eq, List.contains_iff_mem] at h
  obtain ⟨⟨h1, h2⟩, h3⟩ := h
  obtain ⟨hju, oj, hoj, hjall⟩ := mem_ready.1 hj
  obtain ⟨hiu, oi, hoi, hiall⟩ := mem_ready.1 hi
  rcases h3 i (Array.getElem?_eq_some_iff.1 hoi).1 with (h3 | h3) | h3
  · exact h3
  · have := ancB_ok hd (fun m hm o ho e he hb => by
      obtain rfl : m = j := by simpa using hm
      obtain rfl : o = oj := Option.some.inj (ho.symm.trans hoj)
      exact hjall e he hb) h1 i h3
    rw [getD_both hiu] at this
    cases this
  · exact absurd hi (desB_ok hd (fun m hm => by
      obtain rfl : m = j := by simpa using hm
      exact getD_both hju) h2 i h3)
theorem cuts_of {md : Region.Mode} {ops : Array Oper} (L : List (Nat × List Nat × List Nat)) (h : (L.all fun x => cutB md ops x.1 x.2.1 x.2.2) = true) : ∀ j ∈ L.map (fun x => x.1), CutOk md ops j := fun j hj => by
  obtain ⟨x, hx, rfl⟩ := List.mem_map.1 hj
  exact cutOk_of (List.all_eq_true.1 h x hx)
section
variable {F : Fence} {n : Nat} {P : Program} {ops : Array Oper} {Q : Exit → Act → World → Prop} {md : Region.Mode}
/-- Whatever order is picked; S holds all along, and may be exchanged behind an operation of C. -/
def wpBC (F : Fence) (n : Nat) (P : Program) (md : Region.Mode) (ops : Array Oper) (Q : Exit → Act → World → Prop) (C : List Nat) (K : Act → World → Prop) : (World → Prop) → Nat → Array Bool → Act → World → Prop
  | _, 0, listed, a, w => allB ops listed ∧ K a w
  | S, f + 1, listed, a, w => (allB ops listed → K a w) ∧ ∀ i ∈ Region.ready md ops listed, wpOpIn F n P ops Q i (fun a' w' => (S w' ∧ wpBC F n P md ops Q C K S f (listed.setIfInBounds i true) a' w') ∨ (i ∈ C ∧ ∃ S', S' w' ∧ wpBC F n P md ops Q C K S' f (listed.setIfInBounds i true) a' w')) a w
theorem wpBC_any (hback : backB md ops = true) {C : List Nat} : ∀ (f : Nat) (S : World → Prop) (listed : Array Bool) (a : Act) (w : World), listed.size = ops.size → wpBC F n P md ops Q C (fun a w => Q .normal a w) S f listed a w → wpAnyIn F n P md ops Q f listed a w
  | 0, _, listed, a, w, _, ⟨h1, h2⟩ => by
    refine ⟨?_, h2⟩
    apply Classical.byContradiction
    intro hne
    obtain ⟨i, hi⟩ := List.exists_mem_of_ne_nil _ hne
    exact not_ready_all h1 hi
  | f + 1, S, listed, a, w, hs, ⟨h1, h2⟩ => by
    refine ⟨fun h0 => h1 fun i hi => ?_, fun i hi => wpOpIn_mono (fun a' w' h => ?_) (h2 i hi)⟩
    · apply Classical.byContradiction
      intro hne
      exact some_ready hback hs i i (Nat.le_refl _) hi (by simpa using hne) h0
    · rcases h with h | ⟨_, S', _, h⟩
      · exact wpBC_any hback f S _ a' w' (by simp [hs]) h.2
      · exact wpBC_any hback f S' _ a' w' (by simp [hs]) h
theorem wpBC_first (hro : F.round = none) (hfn : ∀ f, F.fn f) {C : List Nat} (hC : ∀ j ∈ C, CutOk md ops j) {K : Act → World → Prop} {i : Nat} {oi : Oper} {v : Value} (hi : ops[i]? = some oi) (hsel : ∀ (j : Nat) (o : Oper) cs b, ops[j]? = some o → o.op ≠ .select cs b)
    (hQ : ∀ c a w, Q (.panic c) (a.put oi.dst v) w → Q (.panic c) a w) {S : World → Prop} :
    ∀ (fuel : Nat) (listed : Array Bool) (a : Act) (w : World), dcD md ops listed →
      (∀ j oj, ops[j]? = some oj → j ≠ i → listed.getD j true = false → (∀ e ∈ oj.after, Region.binds md e = true → e.on ≠ i) → oi.apart ops oj = true) →
      i ∈ Region.ready md ops listed → YieldsIf P ops S oi v a → S w →
      wpBC F n P md ops Q C K S fuel (listed.setIfInBounds i true) (a.put oi.dst v) w → wpBC F n P md ops Q C K S (fuel + 1) listed a w := by
  intro fuel
  induction fuel with
  | zero =>
    intro listed a w _ _ hr hy hS H
    refine ⟨fun h => (not_ready_all h hr).elim, fun j hj => ?_⟩
    by_cases hji : j = i
    · subst hji; exact yi_wpOpIn hro hfn hi hy hS (Or.inl ⟨hS, H⟩)
    · exact (not_ready_all H.1 (ready_mono hj hji)).elim
  | succ fuel ih =>
    intro listed a w hd hfree hr hy hS H
    refine ⟨fun h => (not_ready_all h hr).elim, fun j hj => ?_⟩
    by_cases hji : j = i
    · subst hji; exact yi_wpOpIn hro hfn hi hy hS (Or.inl ⟨hS, H⟩)
    · have h1 := H.2 j (ready_mono hj hji)
      obtain ⟨hjun, oj, hoj, hall⟩ := mem_ready.1 hj
      have hnot : ∀ e ∈ oj.after, Region.binds md e = true → e.on ≠ i := fun e he hb heq => by
        have h1 := hall e he hb
        have h0 := (mem_ready.1 hr).1
        rw [heq, getD_both h0] at h1
        cases h1
      have h2 := wpOpIn_putIf hro hoj (hfree j oj hoj hji hjun hnot) (fun cs b => hsel i oi cs b hi) (fun cs b => hsel j oj cs b hoj) hQ hy h1
      have hfree' : ∀ k ok, ops[k]? = some ok → k ≠ i → (listed.setIfInBounds j true).getD k true = false →
          (∀ e ∈ ok.after, Region.binds md e = true → e.on ≠ i) → oi.apart ops ok = true := fun k ok hk hki hun hno => by
        refine hfree k ok hk hki ?_ hno
        by_cases hjk : j = k
        · subst hjk; exact hjun
        · rw [getD_set_ne true hjk] at hun; exact hun
      refine wpOpIn_mono (fun a' w' h3 => ?_) h2
      rcases h3 with ⟨h3, h4 | ⟨hjC, _⟩⟩
      · refine Or.inl ⟨h4.1, ih (listed.setIfInBounds j true) a' w' (dcD_set hd hj) hfree' (ready_mono hr (Ne.symm hji)) h3 h4.1 ?_⟩
        rw [Array.setIfInBounds_comm _ _ hji]
        exact h4.2
      · exact absurd (hC j hjC listed hd hj i hr).symm hji
def wpSeqBC (F : Fence) (n : Nat) (P : Program) (ops : Array Oper) (Q : Exit → Act → World → Prop) (C : List Nat) (K : Act → World → Prop) : (World → Prop) → List St → Act → World → Prop
  | _, [], a, w => K a w
  | S, (i, true, d, none) :: is, a, w => ∃ oi v, ops[i]? = some oi ∧ (∀ w, S w → (execOp a.eval oi).run P w = .ok (.value v) w) ∧ wpSeqBC F n P ops Q C K S is (a.put d v) w
  | S, (i, true, d, some (t, b)) :: is, a, w => ∃ g, a.tmps[t]? = some g ∧ ((g = .bool b ∧ ∃ oi v, ops[i]? = some oi ∧ (∀ w, S w → (execOp a.eval oi).run P w = .ok (.value v) w) ∧ wpSeqBC F n P ops Q C K S is (a.put d v) w) ∨ (g ≠ .bool b ∧ wpSeqBC F n P ops Q C K S is (a.put d undef) w))
  | S, (i, false, _, none) :: is, a, w => ∃ o, ops[i]? = some o ∧ ∀ K' : Act → World → Prop, Shut (∀ a' w'' S', (S' = S ∨ i ∈ C) → S' w'' → wpSeqBC F n P ops Q C K S' is a' w'' → K' a' w'') → Oper.wpIn F n P o a w K' Q
  | S, (i, false, d, some (t, b)) :: is, a, w => ∃ g, a.tmps[t]? = some g ∧ ((g = .bool b ∧ ∃ o, ops[i]? = some o ∧ ∀ K' : Act → World → Prop, Shut (∀ a' w'' S', (S' = S ∨ i ∈ C) → S' w'' → wpSeqBC F n P ops Q C K S' is a' w'' → K' a' w'') → Oper.wpIn F n P o a w K' Q) ∨
      (g ≠ .bool b ∧ wpSeqBC F n P ops Q C K S is (a.put d undef) w))
theorem wpBC_seq (hro : F.round = none) (hfn : ∀ f, F.fn f) {C : List Nat} (hC : ∀ j ∈ C, CutOk md ops j) {K : Act → World → Prop} {L' : Array Bool} (hL : ((List.range ops.size).all fun i => L'.getD i false) = true) (hsel : Region.noSelect ops = true) (hQ : ∀ c a d v w, Q (.panic c) (a.put d v) w → Q (.panic c) a w) :
    ∀ (is : List St) (S : World → Prop) (listed : Array Bool) (a : Act) (w : World), dcD md ops listed → seqOkC md ops L' is listed = true → S w → wpSeqBC F n P ops Q C K S is a w → wpBC F n P md ops Q C K S is.length listed a w
  | [], S, listed, a, w, _, hB, hS, h => by
    have e : listed = L' := by simpa [seqOkC] using hB
    subst e
    exact ⟨fun i hi => List.all_eq_true.1 hL i (List.mem_range.2 hi), h⟩
  | (i, true, d, g) :: is, S, listed, a, w, hd0, hB, hS, h => by
    simp only [seqOkC, Bool.and_eq_true] at hB
    obtain ⟨⟨⟨hd, hB1⟩, hB2⟩, hB3⟩ := hB
    have hrd : i ∈ Region.ready md ops listed := by simpa using hB2
    rw [List.length_cons]
    cases ho : ops[i]? with
    | none => rw [ho] at hd; cases hd
    | some oi =>
      rw [ho] at hd
      simp only [Bool.and_eq_true, beq_iff_eq] at hd
      obtain ⟨hd, hg⟩ := hd
      subst hd
      have key : ∀ v, YieldsIf P ops S oi v a → wpSeqBC F n P ops Q C K S is (a.put oi.dst v) w → wpBC F n P md ops Q C K S (is.length + 1) listed a w := fun v hy h3 =>
        wpBC_first hro hfn hC ho (Region.noSelect_spec hsel) (fun c a w => hQ c a _ _ w) is.length listed a w hd0 (Region.free_spec ho hB1) hrd hy hS (wpBC_seq hro hfn hC hL hsel hQ is S _ _ w (dcD_set hd0 hrd) hB3 hS h3)
      cases g with
      | none =>
        obtain ⟨oi', v, h1, h2, h3⟩ := h
        obtain rfl : oi = oi' := Option.some.inj (ho.symm.trans h1)
        exact key v (Or.inl ⟨wanted_free hg _, h2⟩) h3
      | some x =>
        obtain ⟨t, b⟩ := x
        obtain ⟨g, hgv, h⟩ := h
        rcases h with ⟨rfl, oi', v, h1, h2, h3⟩ | ⟨hn, h3⟩
        · obtain rfl : oi = oi' := Option.some.inj (ho.symm.trans h1)
          exact key v (Or.inl ⟨wanted_on hg hgv, h2⟩) h3
        · exact key undef (Or.inr ⟨wanted_no hg hgv hn, rfl⟩) h3
  | (i, false, d, g) :: is, S, listed, a, w, hd0, hB, hS, h => by
    simp only [seqOkC, Bool.and_eq_true, decide_eq_true_eq] at hB
    obtain ⟨⟨hd, hB1⟩, hB3⟩ := hB
    have hrd : i ∈ Region.ready md ops listed := by rw [hB1]; simp
    rw [List.length_cons]
    refine ⟨fun h0 => (not_ready_all h0 hrd).elim, fun j hj => ?_⟩
    rw [hB1] at hj
    have hji : j = i := by simpa using hj
    subst hji
    cases ho : ops[j]? with
    | none => rw [ho] at hd; cases hd
    | some oi =>
      rw [ho] at hd
      simp only [Bool.and_eq_true, beq_iff_eq] at hd
      obtain ⟨hd, hg⟩ := hd
      subst hd
      have on : Region.wanted oi (yielded ops a.tmps) = true → (∃ o, ops[j]? = some o ∧ ∀ K' : Act → World → Prop, Shut (∀ a' w'' S', (S' = S ∨ j ∈ C) → S' w'' → wpSeqBC F n P ops Q C K S' is a' w'' → K' a' w'') → Oper.wpIn F n P o a w K' Q) →
          wpOpIn F n P ops Q j (fun a' w' => (S w' ∧ wpBC F n P md ops Q C K S is.length (listed.setIfInBounds j true) a' w') ∨ (j ∈ C ∧ ∃ S', S' w' ∧ wpBC F n P md ops Q C K S' is.length (listed.setIfInBounds j true) a' w')) a w := fun hw h => by
        obtain ⟨o, ho', h⟩ := h
        obtain rfl : oi = o := Option.some.inj (ho.symm.trans ho')
        refine wpOpIn_on hfn ho hw fun K' hK => h K' fun a' w'' S' hor h1 h2 => hK a' w'' ?_
        rcases hor with rfl | hjC
        · exact Or.inl ⟨h1, wpBC_seq hro hfn hC hL hsel hQ is _ _ _ w'' (dcD_set hd0 hrd) hB3 h1 h2⟩
        · exact Or.inr ⟨hjC, S', h1, wpBC_seq hro hfn hC hL hsel hQ is S' _ _ w'' (dcD_set hd0 hrd) hB3 h1 h2⟩
      cases g with
      | none => exact on (wanted_free hg _) h
      | some x =>
        obtain ⟨t, b⟩ := x
        obtain ⟨g, hgv, h⟩ := h
        rcases h with ⟨rfl, h⟩ | ⟨hn, h3⟩
        · exact on (wanted_on hg hgv) h
        · exact wpOpIn_off hfn ho (wanted_no hg hgv hn) (Or.inl ⟨hS, wpBC_seq hro hfn hC hL hsel hQ is S _ _ w (dcD_set hd0 hrd) hB3 hS h3⟩)
/-- A region that draws its order, walked in one order. -/
theorem wp_region_cut (hro : F.round = none) (hfn : ∀ f, F.fn f) {S : World → Prop} {id : Nat} {Q : Exit → Act → World → Prop} {a : Act} {w : World} {l : List Oper} (C : List Nat) (is : List St) (L' : Array Bool) (hm : P.follows .mixedOrders = true) (hB : brnB .any l.toArray = true)
    (hQ0 : ∀ c a (d : Tmp) v w, Q (.panic c) (a.put (some d) v) w ↔ Q (.panic c) a w) (hC : ∀ j ∈ C, CutOk .any l.toArray j) (hL : ((List.range l.toArray.size).all fun i => L'.getD i false) = true) (hlen : is.length = l.length) (hseq : seqOkC .any l.toArray L' is (Array.replicate l.length false) = true) (hS : S w.drew)
    (h : wpSeqBC F n P l.toArray Q C (fun a' w' => Q .normal a' w') S is a w.drew) : (Code.region id l.toArray true).wpIn F n P Q a w := by
  have hQ : ∀ c a d v w, Q (.panic c) (a.put d v) w → Q (.panic c) a w := fun c a d v w h => by
    cases d with
    | none => exact h
    | some d => exact (hQ0 c a d v w).1 h
  simp only [brnB, Bool.and_eq_true] at hB
  refine wpIn_region_any hm ?_
  rw [List.size_toArray, ← hlen]
  rw [hlen]
  have h2 := wpBC_seq (md := .any) hro hfn hC (K := fun a' w' => Q .normal a' w') hL hB.1 hQ is S (Array.replicate l.length false) a w.drew (dcD_none _ _ _) hseq hS h
  rw [hlen] at h2
  exact wpBC_any hB.2 _ S _ a _ (by simp) h2
theorem wpSeqBC_nil {C : List Nat} {K : Act → World → Prop} {S : World → Prop} {a : Act} {w : World} (h : K a w) : wpSeqBC F n P ops Q C K S [] a w := h
theorem wpSeqBC_pure {C : List Nat} {K : Act → World → Prop} {S : World → Prop} {i : Nat} {d : Option Tmp} {is : List St} {a : Act} {w : World} {oi : Oper} {v : Value} (hi : ops[i]? = some oi)
    (hy : ∀ w, S w → (execOp a.eval oi).run P w = .ok (.value v) w) (h : wpSeqBC F n P ops Q C K S is (a.put d v) w) : wpSeqBC F n P ops Q C K S ((i, true, d, none) :: is) a w := ⟨oi, v, hi, hy, h⟩
theorem wpSeqBC_pureG {C : List Nat} {K : Act → World → Prop} {S : World → Prop} {i : Nat} {d : Option Tmp} {t : Tmp} {b : Bool} {is : List St} {a : Act} {w : World} {oi : Oper} {v : Value} (hi : ops[i]? = some oi) (hg : a.tmps[t]? = some (.bool b))
    (hy : ∀ w, S w → (execOp a.eval oi).run P w = .ok (.value v) w) (h : wpSeqBC F n P ops Q C K S is (a.put d v) w) : wpSeqBC F n P ops Q C K S ((i, true, d, some (t, b)) :: is) a w := ⟨_, hg, Or.inl ⟨rfl, oi, v, hi, hy, h⟩⟩
theorem wpSeqBC_off {C : List Nat} {K : Act → World → Prop} {S : World → Prop} {i : Nat} {p : Bool} {d : Option Tmp} {t : Tmp} {b g : Bool} {is : List St} {a : Act} {w : World} (hg : a.tmps[t]? = some (.bool g)) (hb : (!b) = g)
    (h : wpSeqBC F n P ops Q C K S is (a.put d undef) w) : wpSeqBC F n P ops Q C K S ((i, p, d, some (t, b)) :: is) a w := by
  subst hb
  have hn : Value.bool (!b) ≠ .bool b := by cases b <;> simp
  cases p with
  | true => exact ⟨_, hg, Or.inr ⟨hn, h⟩⟩
  | false => exact ⟨_, hg, Or.inr ⟨hn, h⟩⟩
theorem wpSeqBC_offU {C : List Nat} {K : Act → World → Prop} {S : World → Prop} {i : Nat} {p : Bool} {d : Option Tmp} {t : Tmp} {b : Bool} {is : List St} {a : Act} {w : World} (hg : a.tmps[t]? = some undef)
    (h : wpSeqBC F n P ops Q C K S is (a.put d undef) w) : wpSeqBC F n P ops Q C K S ((i, p, d, some (t, b)) :: is) a w := by
  cases p with
  | true => exact ⟨_, hg, Or.inr ⟨(fun e => by cases e), h⟩⟩
  | false => exact ⟨_, hg, Or.inr ⟨(fun e => by cases e), h⟩⟩
theorem wpSeqBC_call {C : List Nat} {K : Act → World → Prop} {S : World → Prop} {i : Nat} {d : Option Tmp} {is : List St} {a : Act} {w : World} {o : Oper} (hi : ops[i]? = some o)
    (h : ∀ K' : Act → World → Prop, Shut (∀ a' w'' S', (S' = S ∨ i ∈ C) → S' w'' → wpSeqBC F n P ops Q C K S' is a' w'' → K' a' w'') → Oper.wpIn F n P o a w K' Q) : wpSeqBC F n P ops Q C K S ((i, false, d, none) :: is) a w := ⟨o, hi, h⟩
theorem wpSeqBC_callG {C : List Nat} {K : Act → World → Prop} {S : World → Prop} {i : Nat} {d : Option Tmp} {t : Tmp} {b : Bool} {is : List St} {a : Act} {w : World} {o : Oper} (hi : ops[i]? = some o) (hg : a.tmps[t]? = some (.bool b))
    (h : ∀ K' : Act → World → Prop, Shut (∀ a' w'' S', (S' = S ∨ i ∈ C) → S' w'' → wpSeqBC F n P ops Q C K S' is a' w'' → K' a' w'') → Oper.wpIn F n P o a w K' Q) : wpSeqBC F n P ops Q C K S ((i, false, d, some (t, b)) :: is) a w := ⟨_, hg, Or.inl ⟨rfl, o, hi, h⟩⟩
end
end Go.Proofs.Tb
