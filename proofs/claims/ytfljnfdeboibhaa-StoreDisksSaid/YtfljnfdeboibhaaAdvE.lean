/- A law on regions that draw their order: operations that only take a result apart may be awaited by whatever comes behind them: edges from them may be added. No statement of the program stands here. -/
import Derived.Test.YtfljnfdeboibhaaAdv
set_option linter.unusedVariables false
set_option linter.unusedSimpArgs false
namespace Go.Proofs.Tb
open Go.RowKit

section
variable {P : Program} {Q : Exit → Act → World → Prop}
/-- What takes a result apart yields in every world, or stops for good. -/
theorem extract_run (P : Program) (ev : Operand → Value) (o : Oper) (x : Operand) (k : Nat) (ho : o.op = .extract x k) :
    (∃ v, ∀ w, (execOp ev o).run P w = .ok (.value v) w) ∨ ∀ (w : World) (a : Act) (K : Act → World → Prop), ¬ o.upon P a K Q ((execOp ev o).run P w) := by
  obtain ⟨d, op, ty, pos, af, g⟩ := o
  simp only at ho
  subst ho
  have hM : ∀ (y : Value), (∃ v, Instr.extract y k = pure v) ∨ ∃ s, Instr.extract y k = stuck s := by
    intro y
    unfold Instr.extract
    cases y with
    | tuple vs =>
      cases h : vs[k]? with
      | none => exact Or.inr (by simp only [h]; exact ⟨_, rfl⟩)
      | some v => exact Or.inl ⟨v, by simp only [h]⟩
    | _ => exact Or.inr ⟨_, rfl⟩
  simp only [execOp]
  rcases hM (ev x) with ⟨v, hv⟩ | ⟨s, hs⟩
  · rw [hv]
    exact Or.inl ⟨v, fun w => rfl⟩
  · rw [hs]
    refine Or.inr fun w a K h => ?_
    exact h
/-- The operations with edges more: (t, f): t waits for f. -/
def addE (E : List (Nat × Nat)) (ops : Array Oper) : Array Oper := ops.mapIdx fun i o => { o with after := o.after ++ ((E.filter fun x => x.1 == i).map fun x => (⟨x.2, .chain⟩ : Edge)).toArray }
theorem addE_get (E : List (Nat × Nat)) (ops : Array Oper) (i : Nat) : (addE E ops)[i]? = (ops[i]?).map fun o => { o with after := o.after ++ ((E.filter fun x => x.1 == i).map fun x => (⟨x.2, .chain⟩ : Edge)).toArray } := by
  unfold addE
  rw [Array.getElem?_mapIdx]
theorem addE_yielded (E : List (Nat × Nat)) (ops : Array Oper) (tmps : Array Value) : yielded (addE E ops) tmps = yielded ops tmps := by
  funext j
  unfold yielded
  rw [addE_get]
  cases ops[j]? <;> rfl
theorem wpOp_addE (E : List (Nat × Nat)) (ops : Array Oper) (i : Nat) (K : Act → World → Prop) (a : Act) (w : World) : wpOp P (addE E ops) Q i K a w ↔ wpOp P ops Q i K a w := by
  unfold wpOp
  rw [addE_get, addE_yielded]
  cases ops[i]? with
  | none => exact Iff.rfl
  | some o => exact Iff.rfl
theorem extract_asks (P : Program) (a : Act) (w : World) (o : Oper) (x : Operand) (k : Nat) (ho : o.op = .extract x k) : ¬ o.asks P a w := by
  intro h
  obtain ⟨d, op, ty, pos, af, g⟩ := o
  simp only at ho
  subst ho
  have h1 := h.1
  have hM : ∀ (y : Value), (∃ v, Instr.extract y k = pure v) ∨ ∃ s, Instr.extract y k = stuck s := by
    intro y
    unfold Instr.extract
    cases y with
    | tuple vs =>
      cases h : vs[k]? with
      | none => exact Or.inr (by simp only [h]; exact ⟨_, rfl⟩)
      | some v => exact Or.inl ⟨v, by simp only [h]⟩
    | _ => exact Or.inr ⟨_, rfl⟩
  simp only [execOp] at h1
  rcases hM (a.eval x) with ⟨v, hv⟩ | ⟨s, hs⟩
  · rw [hv] at h1
    exact absurd (show noRoomEvent ∈ (#[] : Array Event) from h1) (by simp)
  · rw [hs] at h1
    exact absurd (show noRoomEvent ∈ (#[] : Array Event) from h1) (by simp)
/-- An operation that only takes a result apart, or only moves a value. -/
theorem light_run (P : Program) (ev : Operand → Value) (o : Oper) (ho : (∃ x k, o.op = .extract x k) ∨ ∃ x, o.op = .move x) :
    (∃ v, ∀ w, (execOp ev o).run P w = .ok (.value v) w) ∨ ∀ (w : World) (a : Act) (K : Act → World → Prop), ¬ o.upon P a K Q ((execOp ev o).run P w) := by
  rcases ho with ⟨x, k, h⟩ | ⟨x, h⟩
  · exact extract_run P ev o x k h
  · obtain ⟨d, op, ty, pos, af, g⟩ := o
    simp only at h
    subst h
    exact Or.inl ⟨ev x, fun w => rfl⟩
theorem light_asks (P : Program) (a : Act) (w : World) (o : Oper) (ho : (∃ x k, o.op = .extract x k) ∨ ∃ x, o.op = .move x) : ¬ o.asks P a w := by
  rcases ho with ⟨x, k, h⟩ | ⟨x, h⟩
  · exact extract_asks P a w o x k h
  · obtain ⟨d, op, ty, pos, af, g⟩ := o
    simp only at h
    subst h
    intro h1
    exact absurd (show noRoomEvent ∈ (#[] : Array Event) from h1.1) (by simp)
/-- Those that an operation waits for. -/
def waitM (md : Region.Mode) (n : Nat) (f : Oper) : Array Bool := ((List.range n).map fun i => f.after.any fun e => Region.binds md e && e.on == i).toArray
/-- What is asked of the edges that are added. -/
def edgesB (md : Region.Mode) (ops : Array Oper) (E : List (Nat × Nat)) : Bool :=
  E.all fun x => (match ops[x.2]?, ops[x.1]? with
    | some f, some t => (match f.op with | .extract _ _ => true | .move _ => true | _ => false) && f.guard.isNone && Region.free md ops (waitM md ops.size f) x.2 &&
        (f.after.all fun e => !Region.binds md e || t.after.any fun e' => Region.binds md e' && e'.on == e.on) && (E.all fun y => y.1 != x.2)
    | _, _ => false)
theorem ready_addE {md : Region.Mode} {E : List (Nat × Nat)} {ops : Array Oper} {listed : Array Bool} {i : Nat} (h : i ∈ Region.ready md (addE E ops) listed) : i ∈ Region.ready md ops listed := by
  obtain ⟨h1, o, ho, hall⟩ := mem_ready.1 h
  rw [addE_get] at ho
  cases hi : ops[i]? with
  | none => rw [hi] at ho; cases ho
  | some o' =>
    rw [hi] at ho
    injection ho with ho
    subst ho
    exact mem_ready.2 ⟨h1, o', hi, fun e he hb => hall e (Array.mem_append_left _ he) hb⟩
theorem addE_size (E : List (Nat × Nat)) (ops : Array Oper) : (addE E ops).size = ops.size := by unfold addE; simp
theorem wpAny_addE {md : Region.Mode} {E : List (Nat × Nat)} {ops : Array Oper} (hsel : Region.noSelect ops = true) (hback : backB md (addE E ops) = true) (hE : edgesB md ops E = true)
    (hQ : ∀ c a d v w, Q (.panic c) (a.put d v) w → Q (.panic c) a w) :
    ∀ (fuel : Nat) (listed : Array Bool) (a : Act) (w : World), listed.size = ops.size → wpAny P md (addE E ops) Q fuel listed a w → wpAny P md ops Q fuel listed a w
  | 0, listed, a, w, hs, ⟨h1, h2⟩ => by
    refine ⟨?_, h2⟩
    apply Classical.byContradiction
    intro hne
    obtain ⟨i, hi⟩ := List.exists_mem_of_ne_nil _ hne
    have hu := (mem_ready.1 hi).1
    have his : i < ops.size := by obtain ⟨_, o, ho, _⟩ := mem_ready.1 hi; exact (Array.getElem?_eq_some_iff.1 ho).1
    exact some_ready hback (by rw [addE_size]; exact hs) i i (Nat.le_refl _) (by rw [addE_size]; exact his) (getD_both hu) h1
  | fuel + 1, listed, a, w, hs, ⟨h1, h2⟩ => by
    by_cases hf : ∃ x ∈ E, x.2 ∈ Region.ready md (addE E ops) listed
    · obtain ⟨⟨t, f⟩, hx, hr'⟩ := hf
      have hr := ready_addE hr'
      have hB := List.all_eq_true.1 hE (t, f) hx
      have hwp := (wpOp_addE E ops f _ a w).1 (h2 f hr')
      simp only at hB
      cases hof : ops[f]? with
      | none => rw [hof] at hB; simp at hB
      | some o =>
        cases hot : ops[t]? with
        | none => rw [hof, hot] at hB; simp at hB
        | some ot =>
          rw [hof, hot] at hB
          simp only [Bool.and_eq_true] at hB
          obtain ⟨⟨⟨⟨hop, hg⟩, hfree⟩, _⟩, _⟩ := hB
          have hgn : o.guard = none := by simpa using hg
          have hw : Region.wanted o (yielded ops a.tmps) = true := wanted_none hgn _
          have hxk : (∃ x k, o.op = .extract x k) ∨ ∃ x, o.op = .move x := by
            cases hh : o.op <;> rw [hh] at hop <;> first | exact Or.inl ⟨_, _, rfl⟩ | exact Or.inr ⟨_, rfl⟩ | cases hop
          unfold wpOp at hwp
          simp only [hof] at hwp
          rw [if_pos hw] at hwp
          rcases light_run (Q := Q) P a.eval o hxk with ⟨v, hv⟩ | hno
          · have hnext : wpAny P md (addE E ops) Q fuel (listed.setIfInBounds f true) (a.put o.dst v) w := by
              rcases hwp with h | h
              · unfold Oper.wp at h
                rw [hv w] at h
                exact h
              · exact absurd h.1 (light_asks P a w o hxk)
            refine wpAny_first hof (Region.noSelect_spec hsel) (fun c a w => hQ c a _ _ w) fuel listed a w (fun j oj hoj hji hun hnb => Region.free_spec hof hfree j oj hoj hji (by
              have hj := (Array.getElem?_eq_some_iff.1 hoj).1
              have hw0 : (waitM md ops.size o).getD j true = o.after.any fun e => Region.binds md e && e.on == j := by simp [waitM, hj]
              rw [hw0]
              apply Classical.byContradiction
              intro hne
              have hany : (o.after.any fun e => Region.binds md e && e.on == j) = true := by simpa using hne
              obtain ⟨e, he, hbe⟩ := Array.any_eq_true'.1 hany
              simp only [Bool.and_eq_true, beq_iff_eq] at hbe
              obtain ⟨_, o2, ho2, hall⟩ := mem_ready.1 hr
              rw [hof] at ho2
              injection ho2 with ho2
              subst ho2
              have h5 := hall e he hbe.1
              rw [hbe.2, getD_both hun] at h5
              cases h5) hnb) hr (Or.inl ⟨hw, hv⟩) ?_
            exact wpAny_addE hsel hback hE hQ fuel _ _ w (by simp [hs]) hnext
          · rcases hwp with h | h
            · exact absurd h (hno w a _)
            · exact absurd h.1 (light_asks P a w o hxk)
    · have hsub : ∀ i, i ∈ Region.ready md ops listed → i ∈ Region.ready md (addE E ops) listed := by
        intro i hi
        obtain ⟨g1, o, ho, hall⟩ := mem_ready.1 hi
        refine mem_ready.2 ⟨g1, _, by rw [addE_get, ho]; rfl, fun e he hb => ?_⟩
        rcases Array.mem_append.1 he with he | he
        · exact hall e he hb
        · apply Classical.byContradiction
          intro hl
          simp only [List.mem_toArray, List.mem_map, List.mem_filter, beq_iff_eq] at he
          obtain ⟨⟨t, f⟩, ⟨hxE, hti⟩, rfl⟩ := he
          simp only at hti hl
          subst hti
          refine hf ⟨(t, f), hxE, ?_⟩
          have hB := List.all_eq_true.1 hE (t, f) hxE
          simp only at hB
          cases hof : ops[f]? with
          | none => rw [hof] at hB; simp at hB
          | some of =>
            rw [hof, ho] at hB
            simp only [Bool.and_eq_true] at hB
            obtain ⟨⟨_, hpre⟩, hnt⟩ := hB
            have hfs : f < listed.size := by rw [hs]; exact (Array.getElem?_eq_some_iff.1 hof).1
            refine mem_ready.2 ⟨getD_in hfs (by simpa using hl), _, by rw [addE_get, hof]; rfl, fun e he hb => ?_⟩
            rcases Array.mem_append.1 he with he | he
            · have := Array.all_eq_true_iff_forall_mem.1 hpre e he
              rw [hb] at this
              simp only [Bool.not_true, Bool.false_or] at this
              obtain ⟨e', he', hbe⟩ := Array.any_eq_true'.1 this
              simp only [Bool.and_eq_true, beq_iff_eq] at hbe
              rw [← hbe.2]
              exact hall e' he' hbe.1
            · simp only [List.mem_toArray, List.mem_map, List.mem_filter, beq_iff_eq] at he
              obtain ⟨y, ⟨hyE, hyf⟩, _⟩ := he
              have := List.all_eq_true.1 hnt y hyE
              simp [hyf] at this
      refine ⟨fun h0 => h1 ?_, fun i hi => ?_⟩
      · apply Classical.byContradiction
        intro hne
        obtain ⟨i, hi⟩ := List.exists_mem_of_ne_nil _ hne
        have := ready_addE hi
        rw [h0] at this
        cases this
      · exact wpOp_mono (fun a' w' h => wpAny_addE hsel hback hE hQ fuel _ a' w' (by simp [hs]) h) ((wpOp_addE E ops i _ a w).1 (h2 i (hsub i hi)))
theorem wpAny_adv {Q : Exit → Act → World → Prop} {a : Act} {w : World} {l : List Oper} (n : Nat) (J : List AJ) (is : List St) 
    (hB : advB .any l.toArray n (J.map fun x => (x.i, x.d)) is = true) (hpw : pwB (J.map fun x => (x.i, x.d)) = true)
    (hJ : ∀ it ∈ J, ∀ o, l.toArray[it.i]? = some o → ∀ (ev : Operand → Value) (w : World), (execOp ev o).run P w = .ok (.value (ptr w.heap.size)) (w.alloc (.cells it.zs it.T)))
    (hQ0 : ∀ c a (d : Tmp) v w, Q (.panic c) (a.put (some d) v) w ↔ Q (.panic c) a w) {W0 : World} (hW0 : Ext W0 w.drew)
    (h : wpSeq P l.toArray Q (Ext W0) (endJ w.heap.size (fun a' w' => wpList P l.toArray Q (l.drop n) a' w') J []) is a w.drew) : wpAny P .any l.toArray Q l.toArray.size (Array.replicate l.toArray.size false) a w.drew := by
  have hQ : ∀ c a d v w, Q (.panic c) (a.put d v) w ↔ Q (.panic c) a w := fun c a d v w => by
    cases d with
    | none => exact Iff.rfl
    | some d => exact hQ0 c a d v w
  have hp := pw_of J hpw
  simp only [advB, Bool.and_eq_true, decide_eq_true_eq] at hB
  obtain ⟨⟨⟨⟨⟨⟨hsel, hback⟩, htail⟩, hnn, hlen⟩, hseq⟩, hok⟩, hj⟩ := hB
  rw [List.length_map] at hlen
  rw [List.map_map] at hok
  have hOk : ∀ it ∈ J, OkJ P .any l.toArray n it := by
    intro it hit
    have h1 := List.all_eq_true.1 hj (it.i, it.d) (List.mem_map.2 ⟨it, hit, rfl⟩)
    simp only [Bool.and_eq_true, decide_eq_true_eq] at h1
    obtain ⟨⟨h1, h2⟩, h3⟩ := h1
    cases ho : l.toArray[it.i]? with
    | none => rw [ho] at h2; simp at h2
    | some o =>
      rw [ho] at h2
      simp only [Bool.and_eq_true, Option.isNone_iff_eq_none, beq_iff_eq] at h2
      refine ⟨h1, ⟨o, ho, h2.1.2, wanted_none h2.1.1, fun e he hb => ?_, hJ it hit o ho⟩, fun j oj hoj hji hjn => ?_⟩
      · have := Array.all_eq_true_iff_forall_mem.1 h2.2 e he
        rw [hb] at this
        cases this
      · have h4 := List.all_eq_true.1 h3 j (List.mem_range.2 hjn)
        rw [hoj] at h4
        simp only [Bool.or_eq_true, beq_iff_eq, Bool.and_eq_true, bne_iff_ne, ne_eq] at h4
        rcases h4 with h4 | h4
        · exact absurd h4 hji
        · exact ⟨by simpa using h4.1, h4.2⟩
  have hA := wpAdv_of_seq (P := P) (md := .any) (K := endJ w.heap.size (fun a' w' => wpList P l.toArray Q (l.drop n) a' w') J []) hsel (fun c a d v w h => (hQ c a d v w).1 h) (S := Ext W0) (fun w1 w2 h1 h2 => h1.trans h2)
    is (maskX l.toArray.size n (J.map (·.i))) a
  have hend : ∀ (listed : Array Bool) (a : Act) (w : World), listed.size = l.toArray.size → (∀ i, i < l.toArray.size → listed.getD i false = decide (i < n)) → wpList P l.toArray Q (l.drop n) a w → wpAny P .any l.toArray Q (l.toArray.size - n) listed a w := by
    intro listed a w hs hfin hk
    have he : listed = maskB l.toArray.size n := by
      apply Array.ext
      · rw [hs]; simp [maskB]
      · intro i h1 h2
        have h3 : listed[i] = decide (i < n) := by have := hfin i (by omega); simpa [h1] using this
        rw [h3]; simp [maskB]
    have hdl : (l.drop n).length = l.toArray.size - n := by simp
    have := wpAny_of_seq (md := .any) (Q' := Q) (l.drop n) n listed a w (fun j => by simp [List.getElem?_drop]) (by rw [hdl, he]; exact hseq) hk
    rwa [hdl] at this
  have hcnt : ∀ (L : List AJ), cntJ (fun _ => none) L = L.length := by
    intro L
    induction L with
    | nil => rfl
    | cons x L ih => unfold cntJ; rw [ih]; simp only [List.length_cons]; omega
  have hput : ∀ (L : List AJ) (a : Act), putJ (fun _ => none) L a = a := by
    intro L
    induction L with
    | nil => intro _; rfl
    | cons x L ih => intro a; exact ih a
  have hmain := adv_main (md := .any) (Kt := fun a' w' => wpList P l.toArray Q (l.drop n) a' w') (base := w.heap.size) hsel hback htail hnn (fun c a d v w h => (hQ c a d v w).2 h) hOk hp hend (is.length + J.length) is.length (fun _ => none)
    (Array.replicate l.toArray.size false) (maskX l.toArray.size n (J.map (·.i))) a w.drew ⟨by simp, fun j oj _ hl => (by rw [getD_replicate_false] at hl; cases hl), fun t _ ht => getD_in (by simpa using ht) (getD_replicate_false _ _)⟩ (by simp [maskX])
    (fun i hi => by
      rw [maskX_get _ _ _ _ hi, getD_replicate_false]
      simp only [Bool.or_eq_true, decide_eq_true_eq, List.contains_iff_mem, List.mem_map]
      simp) (fun it hit => by rw [getD_replicate_false]; simp) (fun it hit r hr => by cases hr) (fun x hx y hy hne r hr => by cases hr) (Nat.le_refl _) (by rw [hcnt])
    (fun w' hx => hA w' hok (hW0.trans hx) (wpSeq_ext is _ _ _ h hx))
  rw [hput] at hmain
  rw [show is.length + J.length + (l.toArray.size - n) = l.toArray.size by omega] at hmain
  exact hmain

/-- The same on lists. -/
def addEL (E : List (Nat × Nat)) : Nat → List Oper → List Oper
  | _, [] => []
  | i, o :: l => { o with after := o.after ++ ((E.filter fun x => x.1 == i).map fun x => (⟨x.2, .chain⟩ : Edge)).toArray } :: addEL E (i + 1) l
theorem addEL_get (E : List (Nat × Nat)) : ∀ (l : List Oper) (k i : Nat), (addEL E k l)[i]? = (l[i]?).map fun o => { o with after := o.after ++ ((E.filter fun x => x.1 == k + i).map fun x => (⟨x.2, .chain⟩ : Edge)).toArray }
  | [], _, _ => by simp [addEL]
  | o :: l, k, 0 => by simp [addEL]
  | o :: l, k, i + 1 => by
    have := addEL_get E l (k + 1) i
    rw [show k + 1 + i = k + (i + 1) by omega] at this
    simpa [addEL] using this
theorem addEL_eq (E : List (Nat × Nat)) (l : List Oper) : (addEL E 0 l).toArray = addE E l.toArray := by
  apply Array.ext_getElem?
  intro i
  rw [addE_get, List.getElem?_toArray, addEL_get, List.getElem?_toArray, Nat.zero_add]
/-- A region that draws its order, with edges more. -/
theorem wp_region_advE {id : Nat} {a : Act} {w : World} {l : List Oper} (E : List (Nat × Nat)) (n : Nat) (J : List AJ) (is : List St) (hm : P.follows .mixedOrders = true)
    (hE : (backB .any (addE E l.toArray) && edgesB .any l.toArray E) = true) (hB : advB .any (addEL E 0 l).toArray n (J.map fun x => (x.i, x.d)) is = true) (hpw : pwB (J.map fun x => (x.i, x.d)) = true)
    (hJ : ∀ it ∈ J, ∀ o, (addEL E 0 l).toArray[it.i]? = some o → ∀ (ev : Operand → Value) (w : World), (execOp ev o).run P w = .ok (.value (ptr w.heap.size)) (w.alloc (.cells it.zs it.T)))
    (hQ0 : ∀ c a (d : Tmp) v w, Q (.panic c) (a.put (some d) v) w ↔ Q (.panic c) a w) {W0 : World} (hW0 : Ext W0 w.drew)
    (h : wpSeq P (addEL E 0 l).toArray Q (Ext W0) (endJ w.heap.size (fun a' w' => wpList P (addEL E 0 l).toArray Q ((addEL E 0 l).drop n) a' w') J []) is a w.drew) : (Code.region id l.toArray true).wp P Q a w := by
  have hmain := wpAny_adv (l := addEL E 0 l) n J is hB hpw hJ hQ0 hW0 h
  simp only [Bool.and_eq_true] at hE
  have hsel : Region.noSelect l.toArray = true := by
    have h1 : Region.noSelect (addE E l.toArray) = true := by
      have := hB
      simp only [advB, Bool.and_eq_true] at this
      rw [addEL_eq] at this
      exact this.1.1.1.1.1.1
    unfold Region.noSelect at h1 ⊢
    rw [Array.all_eq_true_iff_forall_mem] at h1 ⊢
    intro o ho
    obtain ⟨i, hi⟩ := Array.getElem?_of_mem ho
    have e := addE_get E l.toArray i
    rw [hi] at e
    have h3 := h1 _ (Array.mem_of_getElem? e)
    exact h3
  refine wp_region_any hm ?_
  rw [addEL_eq] at hmain
  rw [addE_size] at hmain
  exact wpAny_addE hsel hE.1 hE.2 (fun c a d v w h => by
    cases d with
    | none => exact h
    | some d => exact (hQ0 c a d v w).1 h) _ _ _ _ (by simp) hmain
end
end Go.Proofs.Tb
