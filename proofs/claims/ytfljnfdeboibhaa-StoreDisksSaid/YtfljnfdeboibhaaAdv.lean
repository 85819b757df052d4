/- A law on regions that draw their order: new blocks that no other operation of the region looks at need not be branched over. No statement of the program stands here. -/
import Derived.Test.YtfljnfdeboibhaaGround
import Derived.OrdersHeld
import Derived.StillTail
import Derived.RegionTactic
set_option linter.unusedVariables false
set_option linter.unusedSimpArgs false
namespace Go.Proofs.Tb
open Go.RowKit

theorem Ext.trans {a b c : World} (h : Ext a b) (k : Ext b c) : Ext a c := bt h k
theorem Ext.size {a b : World} (h : Ext a b) : a.heap.size ≤ b.heap.size := Below.size h
theorem Ext.allocR (a : World) (o : Obj) : Ext a (a.alloc o) := (Below.refl _ _).alloc (Nat.le_refl _) o
def ptr (R : Nat) : Value := .pointer (some ⟨R, 0, none⟩)

section
variable {P : Program} {ops : Array Oper} {Q : Exit → Act → World → Prop} {md : Region.Mode} {S : World → Prop}

def allB (ops : Array Oper) (listed : Array Bool) : Prop := ∀ i, i < ops.size → listed.getD i false = true
/-- Whatever order is picked, and whatever new blocks come up between. -/
def wpAdv (P : Program) (md : Region.Mode) (ops : Array Oper) (Q : Exit → Act → World → Prop) (K : Act → World → Prop) : Nat → Array Bool → Act → World → Prop
  | 0, listed, a, w => allB ops listed ∧ K a w
  | f + 1, listed, a, w => (allB ops listed → K a w) ∧ ∀ i ∈ Region.ready md ops listed, wpOp P ops Q i (fun a' w' => Ext w w' ∧ ∀ w'', Ext w' w'' → wpAdv P md ops Q K f (listed.setIfInBounds i true) a' w'') a w
theorem not_ready_all {listed : Array Bool} (h : allB ops listed) {i : Nat} (hi : i ∈ Region.ready md ops listed) : False := by
  obtain ⟨h1, o, ho, _⟩ := mem_ready.1 hi
  have := h i (Array.getElem?_eq_some_iff.1 ho).1
  rw [getD_both h1] at this
  cases this
theorem allB_set {listed : Array Bool} (h : allB ops listed) (i : Nat) : allB ops (listed.setIfInBounds i true) := fun j hj => getD_set_true (h j hj)

theorem wpAdv_first {K : Act → World → Prop} {i : Nat} {oi : Oper} {v : Value} (hi : ops[i]? = some oi) (hsel : ∀ (j : Nat) (o : Oper) cs b, ops[j]? = some o → o.op ≠ .select cs b)
    (hQ : ∀ c a w, Q (.panic c) (a.put oi.dst v) w → Q (.panic c) a w) (hSE : ∀ w w', S w → Ext w w' → S w') :
    ∀ (fuel : Nat) (listed : Array Bool) (a : Act) (w : World),
      (∀ j oj, ops[j]? = some oj → j ≠ i → listed.getD j true = false → (∀ e ∈ oj.after, Region.binds md e = true → e.on ≠ i) → oi.apart ops oj = true) →
      i ∈ Region.ready md ops listed → YieldsIf P ops S oi v a → S w →
      (∀ w', Ext w w' → wpAdv P md ops Q K fuel (listed.setIfInBounds i true) (a.put oi.dst v) w') → wpAdv P md ops Q K (fuel + 1) listed a w := by
  intro fuel
  induction fuel with
  | zero =>
    intro listed a w _ hr hy hS H
    refine ⟨fun h => (not_ready_all h hr).elim, fun j hj => ?_⟩
    by_cases hji : j = i
    · subst hji; exact hy.wpOp hi hS ⟨Ext.refl w, H⟩
    · exact (not_ready_all (H w (Ext.refl w)).1 (ready_mono hj hji)).elim
  | succ fuel ih =>
    intro listed a w hfree hr hy hS H
    refine ⟨fun h => (not_ready_all h hr).elim, fun j hj => ?_⟩
    by_cases hji : j = i
    · subst hji; exact hy.wpOp hi hS ⟨Ext.refl w, H⟩
    · have h1 := (H w (Ext.refl w)).2 j (ready_mono hj hji)
      obtain ⟨hjun, oj, hoj, hall⟩ := mem_ready.1 hj
      have hnot : ∀ e ∈ oj.after, Region.binds md e = true → e.on ≠ i := fun e he hb heq => by
        have h1 := hall e he hb
        have h0 := (mem_ready.1 hr).1
        rw [heq, getD_both h0] at h1
        cases h1
      have h2 := wpOp_putIf hoj (hfree j oj hoj hji hjun hnot) (fun cs b => hsel i oi cs b hi) (fun cs b => hsel j oj cs b hoj) hQ hy h1
      have hfree' : ∀ k ok, ops[k]? = some ok → k ≠ i → (listed.setIfInBounds j true).getD k true = false →
          (∀ e ∈ ok.after, Region.binds md e = true → e.on ≠ i) → oi.apart ops ok = true := fun k ok hk hki hun hno => by
        refine hfree k ok hk hki ?_ hno
        by_cases hjk : j = k
        · subst hjk; exact hjun
        · rw [getD_set_ne true hjk] at hun; exact hun
      refine wpOp_mono (fun a' w' h3 => ⟨h3.2.1, fun w'' hx => ih (listed.setIfInBounds j true) a' w'' hfree' (ready_mono hr (Ne.symm hji)) h3.1 (hSE _ _ hS (h3.2.1.trans hx)) fun w3 hx3 => ?_⟩) h2
      rw [Array.setIfInBounds_comm _ _ hji]
      exact h3.2.2 w3 (hx.trans hx3)

/-- A step: the operation's number, whether it may be taken first, its temporary, its guard's temporary and what is wanted of it. -/
abbrev St := Nat × Bool × Option Tmp × Option (Tmp × Bool)
def grdOk (ops : Array Oper) (o : Oper) : Option (Tmp × Bool) → Bool
  | none => o.guard.isNone
  | some (t, b) => match o.guard with
    | some (j, b') => b' == b && (ops[j]?).bind (·.dst) == some t
    | none => false
theorem wanted_free {o : Oper} (h : grdOk ops o none = true) (y : Nat → Option Bool) : Region.wanted o y = true := by
  have h : o.guard = none := by simpa [grdOk] using h
  simp [Region.wanted, h]
theorem wanted_on {o : Oper} {t : Tmp} {b : Bool} (h : grdOk ops o (some (t, b)) = true) {a : Act} (ht : a.tmps[t]? = some (.bool b)) : Region.wanted o (yielded ops a.tmps) = true := by
  unfold grdOk at h
  cases hg : o.guard with
  | none => rw [hg] at h; cases h
  | some x =>
    obtain ⟨j, b'⟩ := x
    rw [hg] at h
    simp only [Bool.and_eq_true, beq_iff_eq] at h
    have hy : yielded ops a.tmps j = some b := by unfold yielded; rw [h.2]; simp [ht]
    simp only [Region.wanted, hg, hy, h.1]
    cases b <;> rfl
theorem wanted_no {o : Oper} {t : Tmp} {b : Bool} (h : grdOk ops o (some (t, b)) = true) {a : Act} {g : Value} (ht : a.tmps[t]? = some g) (hn : g ≠ .bool b) : Region.wanted o (yielded ops a.tmps) = false := by
  unfold grdOk at h
  cases hg : o.guard with
  | none => rw [hg] at h; cases h
  | some x =>
    obtain ⟨j, b'⟩ := x
    rw [hg] at h
    simp only [Bool.and_eq_true, beq_iff_eq] at h
    have hy : yielded ops a.tmps j ≠ some b := by
      unfold yielded
      rw [h.2]
      simp only [Option.bind_some, ht]
      cases g <;> simp
      rename_i x
      intro e
      subst e
      exact hn rfl
    simp only [Region.wanted, hg, h.1]
    cases hyy : yielded ops a.tmps j with
    | none => rfl
    | some x =>
      rw [hyy] at hy
      cases x <;> cases b <;> first | rfl | exact absurd rfl hy
/-- The order in which the operations are walked: those that may be taken first, and the others one at a time. -/
def seqOk (md : Region.Mode) (ops : Array Oper) : List St → Array Bool → Bool
  | [], listed => (List.range ops.size).all fun i => listed.getD i false
  | (i, true, d, g) :: is, listed => (match ops[i]? with | some o => o.dst == d && grdOk ops o g | none => false) && Region.free md ops listed i && (Region.ready md ops listed).contains i && seqOk md ops is (listed.setIfInBounds i true)
  | (i, false, d, g) :: is, listed => (match ops[i]? with | some o => o.dst == d && grdOk ops o g | none => false) && decide (Region.ready md ops listed = [i]) && seqOk md ops is (listed.setIfInBounds i true)
def wpSeq (P : Program) (ops : Array Oper) (Q : Exit → Act → World → Prop) (S : World → Prop) (K : Act → World → Prop) : List St → Act → World → Prop
  | [], a, w => ∀ w', Ext w w' → S w' → K a w'
  | (i, true, d, none) :: is, a, w => ∃ oi v, ops[i]? = some oi ∧ (∀ w, S w → (execOp a.eval oi).run P w = .ok (.value v) w) ∧ wpSeq P ops Q S K is (a.put d v) w
  | (i, true, d, some (t, b)) :: is, a, w => ∃ g, a.tmps[t]? = some g ∧ ((g = .bool b ∧ ∃ oi v, ops[i]? = some oi ∧ (∀ w, S w → (execOp a.eval oi).run P w = .ok (.value v) w) ∧ wpSeq P ops Q S K is (a.put d v) w) ∨ (g ≠ .bool b ∧ wpSeq P ops Q S K is (a.put d undef) w))
  | (i, false, _, none) :: is, a, w => ∀ w', Ext w w' → S w' → ∃ o, ops[i]? = some o ∧ ∀ K' : Act → World → Prop, Shut (∀ a' w'', Ext w' w'' → wpSeq P ops Q S K is a' w'' → K' a' w'') → Oper.wp P o a w' K' Q
  | (i, false, d, some (t, b)) :: is, a, w => ∃ g, a.tmps[t]? = some g ∧ ((g = .bool b ∧ ∀ w', Ext w w' → S w' → ∃ o, ops[i]? = some o ∧ ∀ K' : Act → World → Prop, Shut (∀ a' w'', Ext w' w'' → wpSeq P ops Q S K is a' w'' → K' a' w'') → Oper.wp P o a w' K' Q) ∨
      (g ≠ .bool b ∧ wpSeq P ops Q S K is (a.put d undef) w))
theorem wpSeq_ext {K : Act → World → Prop} : ∀ (is : List St) (a : Act) (w w' : World), wpSeq P ops Q S K is a w → Ext w w' → wpSeq P ops Q S K is a w'
  | [], _, _, _, h, hx => fun w'' hx' => h w'' (hx.trans hx')
  | (i, true, d, none) :: is, a, w, w', ⟨oi, v, h1, h2, h3⟩, hx => ⟨oi, v, h1, h2, wpSeq_ext is _ w w' h3 hx⟩
  | (i, true, d, some (t, b)) :: is, a, w, w', ⟨g, hg, h⟩, hx => ⟨g, hg, by
      rcases h with ⟨e, oi, v, h1, h2, h3⟩ | ⟨e, h3⟩
      · exact Or.inl ⟨e, oi, v, h1, h2, wpSeq_ext is _ w w' h3 hx⟩
      · exact Or.inr ⟨e, wpSeq_ext is _ w w' h3 hx⟩⟩
  | (i, false, _, none) :: is, _, _, _, h, hx => fun w'' hx' => h w'' (hx.trans hx')
  | (i, false, _, some (t, b)) :: is, a, w, w', ⟨g, hg, h⟩, hx => ⟨g, hg, by
      rcases h with ⟨e, h⟩ | ⟨e, h3⟩
      · exact Or.inl ⟨e, fun w'' hx' => h w'' (hx.trans hx')⟩
      · exact Or.inr ⟨e, wpSeq_ext is _ w w' h3 hx⟩⟩
theorem wpOp_on {i : Nat} {o : Oper} {K : Act → World → Prop} {a : Act} {w : World} (ho : ops[i]? = some o) (hw : Region.wanted o (yielded ops a.tmps) = true) (h : ∀ K' : Act → World → Prop, (∀ a w, K a w → K' a w) → Oper.wp P o a w K' Q) : wpOp P ops Q i K a w :=
  wpOp_step ho fun K' hK => by rw [if_pos hw]; exact h K' hK
theorem wpOp_off {i : Nat} {o : Oper} {K : Act → World → Prop} {a : Act} {w : World} (ho : ops[i]? = some o) (hw : Region.wanted o (yielded ops a.tmps) = false) (h : K (a.put o.dst undef) w) : wpOp P ops Q i K a w :=
  wpOp_step ho fun K' hK => by rw [if_neg (by rw [hw]; decide)]; exact hK _ _ h
theorem wpAdv_of_seq {K : Act → World → Prop} (hsel : Region.noSelect ops = true) (hQ : ∀ c a d v w, Q (.panic c) (a.put d v) w → Q (.panic c) a w) (hSE : ∀ w w', S w → Ext w w' → S w') :
    ∀ (is : List St) (listed : Array Bool) (a : Act) (w : World), seqOk md ops is listed = true → S w → wpSeq P ops Q S K is a w → wpAdv P md ops Q K is.length listed a w
  | [], listed, a, w, hB, hS, h => ⟨fun i hi => by simp only [seqOk, List.all_eq_true, List.mem_range] at hB; exact hB i hi, h w (Ext.refl w) hS⟩
  | (i, true, d, g) :: is, listed, a, w, hB, hS, h => by
    simp only [seqOk, Bool.and_eq_true] at hB
    obtain ⟨⟨⟨hd, hB1⟩, hB2⟩, hB3⟩ := hB
    cases ho : ops[i]? with
    | none => rw [ho] at hd; cases hd
    | some oi =>
      rw [ho] at hd
      simp only [Bool.and_eq_true, beq_iff_eq] at hd
      obtain ⟨hd, hg⟩ := hd
      subst hd
      have key : ∀ v, YieldsIf P ops S oi v a → wpSeq P ops Q S K is (a.put oi.dst v) w → wpAdv P md ops Q K (is.length + 1) listed a w := fun v hy h3 =>
        wpAdv_first ho (Region.noSelect_spec hsel) (fun c a w => hQ c a _ _ w) hSE is.length listed a w (Region.free_spec ho hB1) (by simpa using hB2) hy hS
          (fun w' hx => wpAdv_of_seq hsel hQ hSE is _ _ w' hB3 (hSE _ _ hS hx) (wpSeq_ext is _ _ _ h3 hx))
      cases g with
      | none =>
        obtain ⟨oi', v, h1, h2, h3⟩ := h
        obtain rfl : oi = oi' := Option.some.inj (ho.symm.trans h1)
        exact key v (Or.inl ⟨wanted_free hg _, h2⟩) h3
      | some x =>
        obtain ⟨t, b⟩ := x
        obtain ⟨g, hgv, h⟩ := h
        rcases h with ⟨rfl, oi', v, h1, h2, h3⟩ | ⟨hn, h3⟩
        · obtain rfl : oi = oi' := Option.some.inj (ho.symm.trans h1)
          exact key v (Or.inl ⟨wanted_on hg hgv, h2⟩) h3
        · exact key undef (Or.inr ⟨wanted_no hg hgv hn, rfl⟩) h3
  | (i, false, d, g) :: is, listed, a, w, hB, hS, h => by
    simp only [seqOk, Bool.and_eq_true, decide_eq_true_eq] at hB
    obtain ⟨⟨hd, hB1⟩, hB3⟩ := hB
    refine ⟨fun h0 => (not_ready_all h0 (md := md) (i := i) (by rw [hB1]; simp)).elim, fun j hj => ?_⟩
    rw [hB1] at hj
    have hji : j = i := by simpa using hj
    subst hji
    cases ho : ops[j]? with
    | none => rw [ho] at hd; cases hd
    | some oi =>
      rw [ho] at hd
      simp only [Bool.and_eq_true, beq_iff_eq] at hd
      obtain ⟨hd, hg⟩ := hd
      subst hd
      have next : ∀ a' w', Ext w w' ∧ wpSeq P ops Q S K is a' w' → Ext w w' ∧ ∀ w'', Ext w' w'' → wpAdv P md ops Q K is.length (listed.setIfInBounds j true) a' w'' := fun a' w' h' =>
        ⟨h'.1, fun w'' hx => wpAdv_of_seq hsel hQ hSE is _ _ w'' hB3 (hSE _ _ hS (h'.1.trans hx)) (wpSeq_ext is _ _ _ h'.2 hx)⟩
      have on : Region.wanted oi (yielded ops a.tmps) = true → (∀ w', Ext w w' → S w' → ∃ o, ops[j]? = some o ∧ ∀ K' : Act → World → Prop, Shut (∀ a' w'', Ext w' w'' → wpSeq P ops Q S K is a' w'' → K' a' w'') → Oper.wp P o a w' K' Q) →
          wpOp P ops Q j (fun a' w' => Ext w w' ∧ ∀ w'', Ext w' w'' → wpAdv P md ops Q K is.length (listed.setIfInBounds j true) a' w'') a w := fun hw h => by
        obtain ⟨o, ho', h⟩ := h w (Ext.refl w) hS
        obtain rfl : oi = o := Option.some.inj (ho.symm.trans ho')
        exact wpOp_on ho hw fun K' hK => h K' fun a' w'' h1 h2 => hK a' w'' (next a' w'' ⟨h1, h2⟩)
      cases g with
      | none => exact on (wanted_free hg _) h
      | some x =>
        obtain ⟨t, b⟩ := x
        obtain ⟨g, hgv, h⟩ := h
        rcases h with ⟨rfl, h⟩ | ⟨hn, h3⟩
        · exact on (wanted_on hg hgv) h
        · exact wpOp_off ho (wanted_no hg hgv hn) (next _ _ ⟨Ext.refl w, h3⟩)

/-- An operation, whether or not a temporary that it does not look at is laid. -/
theorem wpOp_putF {j : Nat} {oj : Oper} {d : Tmp} {v : Value} (hj : ops[j]? = some oj) (h1 : d ∉ oj.looksAt ops) (h2 : oj.dst ≠ some d) (hsj : ∀ cs b, oj.op ≠ .select cs b)
    (hQ : ∀ c a w, Q (.panic c) a w → Q (.panic c) (a.put (some d) v) w) {K : Act → World → Prop} {a : Act} {w : World} (h : wpOp P ops Q j K a w) :
    wpOp P ops Q j (fun a' w' => ∃ b, a' = b.put (some d) v ∧ K b w') (a.put (some d) v) w := by
  have h1' : ∀ d', some d = some d' → d' ∉ oj.looksAt ops := fun d' hd => by injection hd with hd; subst hd; exact h1
  have h2' : ∀ d', some d = some d' → oj.dst ≠ some d' := fun d' hd => by injection hd with hd; subst hd; exact h2
  unfold wpOp at *
  simp only [hj] at *
  rw [wanted_put oj a (some d) v h1']
  split
  · rename_i hw
    simp only [hw, if_true] at h
    rcases h with h | ⟨hasks, hlets⟩
    case inr => exact .inr ⟨by unfold Oper.asks at *; rw [execOp_put oj hsj a (some d) v h1']; exact hasks, hlets⟩
    refine .inl ?_
    unfold Oper.wp at *
    rw [execOp_put oj hsj a (some d) v h1']
    generalize (execOp a.eval oj).run P w = r at *
    cases r with
    | ok n w' =>
      cases n <;> simp only [Oper.upon] at h ⊢
      case value u => exact ⟨_, Act.put_comm a v u h2', h⟩
      case skip => exact ⟨_, Act.put_comm a v undef h2', h⟩
      case defer x =>
        refine ⟨_, ?_, h⟩
        rw [← Act.put_comm _ v undef h2']
        exact congrArg (fun b => Act.put b oj.dst undef) (Act.put_defers a (some d) v x)
      case enter f args =>
        refine Calls.mono h fun e w'' he => ?_
        cases e with
        | returned u => exact ⟨_, Act.put_comm a v u h2', he⟩
        | panicked c => exact hQ _ _ _ he
        | outgrown => exact he
      case row row args => exact Rows.mono h fun u w'' he => ⟨_, Act.put_comm a v u h2', he⟩
    | halt x w' =>
      cases x <;> simp only [Oper.upon] at h ⊢
      case panic u => exact hQ _ _ _ h
  · rename_i hw
    simp only [hw] at h
    exact ⟨_, Act.put_comm a v undef h2', h⟩

/-- A new block of the region: its operation's number, its temporary, its element type and cells. -/
structure AJ where
  i : Nat
  d : Tmp
  T : TypeId
  zs : Array Value
/-- The temporaries of the new blocks that are there. -/
def putJ (R : Nat → Option Nat) : List AJ → Act → Act
  | [], a => a
  | it :: J, a => putJ R J (match R it.i with | some r => a.put (some it.d) (ptr r) | none => a)
def upd (R : Nat → Option Nat) (i r : Nat) : Nat → Option Nat := fun j => if j = i then some r else R j
theorem upd_same (R : Nat → Option Nat) (i r : Nat) : upd R i r i = some r := if_pos rfl
theorem upd_ne (R : Nat → Option Nat) {i j : Nat} (r : Nat) (h : j ≠ i) : upd R i r j = R j := if_neg h
theorem putJ_put (R : Nat → Option Nat) (d : Tmp) (v : Value) : ∀ (J : List AJ) (a : Act), (∀ it ∈ J, it.d ≠ d) → putJ R J (a.put (some d) v) = (putJ R J a).put (some d) v
  | [], _, _ => rfl
  | it :: J, a, h => by
    have h0 := h it List.mem_cons_self
    show putJ R J (match R it.i with | some r => (a.put (some d) v).put (some it.d) (ptr r) | none => a.put (some d) v) = (putJ R J (match R it.i with | some r => a.put (some it.d) (ptr r) | none => a)).put (some d) v
    cases R it.i with
    | none => exact putJ_put R d v J a (fun x hx => h x (List.mem_cons_of_mem _ hx))
    | some r =>
      show putJ R J ((a.put (some d) v).put (some it.d) (ptr r)) = (putJ R J (a.put (some it.d) (ptr r))).put (some d) v
      rw [Act.put_comm a v (ptr r) (x := some d) (y := some it.d) (fun d' hd => by injection hd with hd; subst hd; intro he; injection he with he; exact h0 he)]
      exact putJ_put R d v J _ (fun x hx => h x (List.mem_cons_of_mem _ hx))
theorem putJ_congr {R R' : Nat → Option Nat} : ∀ (J : List AJ) (a : Act), (∀ it ∈ J, R it.i = R' it.i) → putJ R J a = putJ R' J a
  | [], _, _ => rfl
  | it :: J, a, h => by
    show putJ R J (match R it.i with | some r => a.put (some it.d) (ptr r) | none => a) = putJ R' J (match R' it.i with | some r => a.put (some it.d) (ptr r) | none => a)
    rw [h it List.mem_cons_self]
    exact putJ_congr J _ (fun x hx => h x (List.mem_cons_of_mem _ hx))
def PwJ (J : List AJ) : Prop := J.Pairwise fun x y => x.i ≠ y.i ∧ x.d ≠ y.d
theorem putJ_upd {R : Nat → Option Nat} {it : AJ} (r : Nat) : ∀ (J : List AJ) (a : Act), PwJ J → it ∈ J → R it.i = none → putJ (upd R it.i r) J a = (putJ R J a).put (some it.d) (ptr r)
  | [], _, _, h, _ => by cases h
  | x :: J, a, hp, h, hn => by
    obtain ⟨hx, hp'⟩ := List.pairwise_cons.1 hp
    rcases List.mem_cons.1 h with rfl | h
    · show putJ (upd R it.i r) J (match upd R it.i r it.i with | some r => a.put (some it.d) (ptr r) | none => a) = (putJ R J (match R it.i with | some r => a.put (some it.d) (ptr r) | none => a)).put (some it.d) (ptr r)
      rw [upd_same, hn]
      show putJ (upd R it.i r) J (a.put (some it.d) (ptr r)) = (putJ R J a).put (some it.d) (ptr r)
      rw [putJ_put _ _ _ J a (fun y hy => ((hx y hy).2).symm), putJ_congr J a (fun y hy => upd_ne R r ((hx y hy).1).symm)]
    · have hne := (hx it h).1
      show putJ (upd R it.i r) J (match upd R it.i r x.i with | some r => a.put (some x.d) (ptr r) | none => a) = (putJ R J (match R x.i with | some r => a.put (some x.d) (ptr r) | none => a)).put (some it.d) (ptr r)
      rw [upd_ne R r hne]
      exact putJ_upd r J _ hp' h hn
def cntJ (R : Nat → Option Nat) : List AJ → Nat
  | [] => 0
  | it :: J => (match R it.i with | some _ => 0 | none => 1) + cntJ R J
theorem cntJ_congr {R R' : Nat → Option Nat} : ∀ (J : List AJ), (∀ it ∈ J, R it.i = R' it.i) → cntJ R J = cntJ R' J
  | [], _ => rfl
  | it :: J, h => by
    unfold cntJ
    rw [h it List.mem_cons_self, cntJ_congr J (fun x hx => h x (List.mem_cons_of_mem _ hx))]
theorem cntJ_upd {R : Nat → Option Nat} {it : AJ} (r : Nat) : ∀ (J : List AJ), PwJ J → it ∈ J → R it.i = none → cntJ R J = cntJ (upd R it.i r) J + 1
  | [], _, h, _ => by cases h
  | x :: J, hp, h, hn => by
    obtain ⟨hx, hp'⟩ := List.pairwise_cons.1 hp
    unfold cntJ
    rcases List.mem_cons.1 h with rfl | h
    · rw [upd_same, hn, cntJ_congr J (fun y hy => upd_ne R r ((hx y hy).1).symm)]
      simp only []
      omega
    · rw [upd_ne R r ((hx it h).1), cntJ_upd r J hp' h hn]
      omega
theorem cntJ_none (R : Nat → Option Nat) : ∀ (J : List AJ), cntJ R J = 0 → ∀ it ∈ J, ∃ r, R it.i = some r
  | [], _, _, h => by cases h
  | x :: J, h0, it, h => by
    unfold cntJ at h0
    cases hx : R x.i with
    | none => rw [hx] at h0; simp only [] at h0; omega
    | some r =>
      rw [hx] at h0
      rcases List.mem_cons.1 h with rfl | h
      · exact ⟨r, hx⟩
      · exact cntJ_none R J (by simp only [] at h0; omega) it h
/-- What has to be shown behind the region: for any new blocks. -/
def endJ (base : Nat) (Kt : Act → World → Prop) : List AJ → List Nat → Act → World → Prop
  | [], _, a, w => Kt a w
  | it :: J, used, a, w => ∀ R, base ≤ R → R ∉ used → Blk w R it.T it.zs → endJ base Kt J (R :: used) (a.put (some it.d) (ptr R)) w
theorem endJ_use {base : Nat} {Kt : Act → World → Prop} {R : Nat → Option Nat} {w : World} : ∀ (J : List AJ) (used : List Nat) (a : Act), PwJ J → (∀ it ∈ J, ∃ r, R it.i = some r) →
    (∀ it ∈ J, ∀ r, R it.i = some r → base ≤ r ∧ r ∉ used ∧ Blk w r it.T it.zs) → (∀ x ∈ J, ∀ y ∈ J, x.i ≠ y.i → R x.i ≠ R y.i) → endJ base Kt J used a w → Kt (putJ R J a) w
  | [], _, _, _, _, _, _, h => h
  | it :: J, used, a, hp, hs, hf, hd, h => by
    obtain ⟨hx, hp'⟩ := List.pairwise_cons.1 hp
    obtain ⟨r, hr⟩ := hs it List.mem_cons_self
    obtain ⟨g1, g2, g3⟩ := hf it List.mem_cons_self r hr
    show Kt (putJ R J (match R it.i with | some r => a.put (some it.d) (ptr r) | none => a)) w
    rw [hr]
    refine endJ_use J (r :: used) _ hp' (fun x hx => hs x (List.mem_cons_of_mem _ hx)) (fun x hxJ r' hr' => ?_) (fun x hx y hy => hd x (List.mem_cons_of_mem _ hx) y (List.mem_cons_of_mem _ hy)) (h r g1 g2 g3)
    obtain ⟨f1, f2, f3⟩ := hf x (List.mem_cons_of_mem _ hxJ) r' hr'
    refine ⟨f1, fun hm => ?_, f3⟩
    rcases List.mem_cons.1 hm with rfl | hm
    · exact hd it List.mem_cons_self x (List.mem_cons_of_mem _ hxJ) (hx x hxJ).1 (by rw [hr, hr'])
    · exact f2 hm
/-- An operation whose temporaries are apart from those of the new blocks. -/
theorem wpOp_putJ {j : Nat} {oj : Oper} (hj : ops[j]? = some oj) (hsj : ∀ cs b, oj.op ≠ .select cs b) (hQ : ∀ c a d v w, Q (.panic c) a w → Q (.panic c) (a.put d v) w) (R : Nat → Option Nat) :
    ∀ (J : List AJ) (K : Act → World → Prop) (a : Act) (w : World), (∀ it ∈ J, it.d ∉ oj.looksAt ops ∧ oj.dst ≠ some it.d) → wpOp P ops Q j K a w →
      wpOp P ops Q j (fun a' w' => ∃ b, a' = putJ R J b ∧ K b w') (putJ R J a) w
  | [], K, a, w, _, h => wpOp_mono (fun a' w' h' => ⟨a', rfl, h'⟩) h
  | it :: J, K, a, w, hap, h => by
    have h0 := hap it List.mem_cons_self
    show wpOp P ops Q j _ (putJ R J (match R it.i with | some r => a.put (some it.d) (ptr r) | none => a)) w
    have e : ∀ b : Act, putJ R (it :: J) b = putJ R J (match R it.i with | some r => b.put (some it.d) (ptr r) | none => b) := fun _ => rfl
    cases hr : R it.i with
    | none =>
      refine wpOp_mono (fun a' w' h' => ?_) (wpOp_putJ hj hsj hQ R J K a w (fun x hx => hap x (List.mem_cons_of_mem _ hx)) h)
      obtain ⟨b, hb, hk⟩ := h'
      exact ⟨b, by rw [e, hr]; exact hb, hk⟩
    | some r =>
      have h1 := wpOp_putF hj h0.1 h0.2 hsj (fun c a w => hQ c a _ (ptr r) w) h
      refine wpOp_mono (fun a' w' h' => ?_) (wpOp_putJ hj hsj hQ R J _ (a.put (some it.d) (ptr r)) w (fun x hx => hap x (List.mem_cons_of_mem _ hx)) h1)
      obtain ⟨b, hb, ⟨b', hb', hk⟩⟩ := h'
      subst hb'
      exact ⟨b', by rw [e, hr]; exact hb, hk⟩
theorem wpAny_more : ∀ (f : Nat) (listed : Array Bool) (a : Act) (w : World), wpAny P md ops Q f listed a w → wpAny P md ops Q (f + 1) listed a w
  | 0, _, _, _, ⟨h1, h2⟩ => ⟨fun _ => h2, fun i hi => by rw [h1] at hi; cases hi⟩
  | f + 1, _, _, _, ⟨h1, h2⟩ => ⟨h1, fun i hi => wpOp_mono (fun a' w' h' => wpAny_more f _ a' w' h') (h2 i hi)⟩
theorem wpAny_add (g : Nat) {f : Nat} {listed : Array Bool} {a : Act} {w : World} (h : wpAny P md ops Q f listed a w) : wpAny P md ops Q (g + f) listed a w := by
  induction g with
  | zero => rw [Nat.zero_add]; exact h
  | succ g ih => rw [show g + 1 + f = g + f + 1 by omega]; exact wpAny_more _ _ _ _ ih

def backB (md : Region.Mode) (ops : Array Oper) : Bool :=
  (List.range ops.size).all fun i => match ops[i]? with | some o => o.after.all fun e => !Region.binds md e || decide (e.on < i) | none => true
def tailB (md : Region.Mode) (ops : Array Oper) (n : Nat) : Bool := decide (n = ops.size) || Region.sinkB md ops n && Region.chainB md ops n
theorem tail_head {n : Nat} (h : tailB md ops n = true) (hnn : n ≤ ops.size) {listed : Array Bool} (inv : HeadInv md ops n listed) {u i : Nat} (hu : u < n) (hun : listed.getD u false = false) (hi : i ∈ Region.ready md ops listed) : i < n := by
  have his : i < ops.size := by obtain ⟨_, o, ho, _⟩ := mem_ready.1 hi; exact (Array.getElem?_eq_some_iff.1 ho).1
  simp only [tailB, Bool.or_eq_true, decide_eq_true_eq, Bool.and_eq_true] at h
  rcases h with h | ⟨h1, h2⟩
  · omega
  · by_cases hn : n < ops.size
    · rcases Nat.lt_or_ge i n with h | h
      · exact h
      · exact absurd hi (tail_waits h1 h2 hn inv _ u rfl hu (getD_in (by rw [inv.size]; omega) hun) i h)
    · omega
theorem some_ready (hb : backB md ops = true) {listed : Array Bool} (hs : listed.size = ops.size) : ∀ (k i : Nat), i ≤ k → i < ops.size → listed.getD i false = false → Region.ready md ops listed ≠ [] := by
  intro k
  induction k with
  | zero =>
    intro i hik hi hu h0
    have hr : i ∈ Region.ready md ops listed := by
      rw [mem_ready]
      refine ⟨getD_in (by omega) hu, ops[i], by simp [hi], fun e he hbe => ?_⟩
      have := List.all_eq_true.1 hb i (List.mem_range.2 hi)
      simp only [hi, getElem?_pos] at this
      have := Array.all_eq_true_iff_forall_mem.1 this e he
      rw [hbe] at this
      simp at this
      omega
    rw [h0] at hr
    cases hr
  | succ k ih =>
    intro i hik hi hu
    by_cases hall : ∀ e ∈ (ops[i]).after, Region.binds md e = true → listed.getD e.on false = true
    · intro h0
      have hr : i ∈ Region.ready md ops listed := by
        rw [mem_ready]
        exact ⟨getD_in (by omega) hu, ops[i], by simp [hi], hall⟩
      rw [h0] at hr
      cases hr
    · have : ∃ e ∈ (ops[i]).after, Region.binds md e = true ∧ listed.getD e.on false ≠ true := by
        apply Classical.byContradiction
        intro hno
        exact hall (fun e he hbe => Classical.byContradiction fun hl => hno ⟨e, he, hbe, hl⟩)
      obtain ⟨e, he, hbe, hl⟩ := this
      have h1 := List.all_eq_true.1 hb i (List.mem_range.2 hi)
      simp only [hi, getElem?_pos] at h1
      have h2 := Array.all_eq_true_iff_forall_mem.1 h1 e he
      rw [hbe] at h2
      simp at h2
      exact ih e.on (by omega) (by omega) (by simpa using hl)

/-- What is asked of a new block's operation. -/
structure OkJ (P : Program) (md : Region.Mode) (ops : Array Oper) (n : Nat) (it : AJ) : Prop where
  lt : it.i < n
  op : ∃ o, ops[it.i]? = some o ∧ o.dst = some it.d ∧ (∀ y, Region.wanted o y = true) ∧ (∀ e ∈ o.after, Region.binds md e = true → False) ∧
    ∀ (ev : Operand → Value) (w : World), (execOp ev o).run P w = .ok (.value (ptr w.heap.size)) (w.alloc (.cells it.zs it.T))
  ap : ∀ j oj, ops[j]? = some oj → j ≠ it.i → j < n → it.d ∉ oj.looksAt ops ∧ oj.dst ≠ some it.d

theorem adv_main {n : Nat} {J : List AJ} {Kt : Act → World → Prop} {base : Nat} (hsel : Region.noSelect ops = true) (hback : backB md ops = true) (htail : tailB md ops n = true) (hnn : n ≤ ops.size)
    (hQ : ∀ c a d v w, Q (.panic c) a w → Q (.panic c) (a.put d v) w) (hJ : ∀ it ∈ J, OkJ P md ops n it) (hp : PwJ J)
    (hend : ∀ listed a w, listed.size = ops.size → (∀ i, i < ops.size → listed.getD i false = decide (i < n)) → Kt a w → wpAny P md ops Q (ops.size - n) listed a w) :
    ∀ (f fM : Nat) (R : Nat → Option Nat) (listed listedX : Array Bool) (a : Act) (w : World),
      HeadInv md ops n listed → listedX.size = ops.size →
      (∀ i, i < ops.size → (listedX.getD i false = true ↔ (listed.getD i false = true ∨ (∃ it ∈ J, it.i = i) ∨ n ≤ i))) →
      (∀ it ∈ J, listed.getD it.i false = true ↔ ∃ r, R it.i = some r) →
      (∀ it ∈ J, ∀ r, R it.i = some r → base ≤ r ∧ r < w.heap.size ∧ Blk w r it.T it.zs) → (∀ x ∈ J, ∀ y ∈ J, x.i ≠ y.i → ∀ r, R x.i = some r → R y.i ≠ some r) →
      base ≤ w.heap.size → f = fM + cntJ R J → (∀ w', Ext w w' → wpAdv P md ops Q (endJ base Kt J []) fM listedX a w') →
      wpAny P md ops Q (f + (ops.size - n)) listed (putJ R J a) w := by
  intro f
  induction f with
  | zero =>
    intro fM R listed listedX a w inv hsx hrel hRl hRf hRd hbw hf hX
    have hs := inv.size
    have ht : ∀ t, n ≤ t → t < ops.size → listed.getD t false = false := fun t h1 h2 => getD_both (inv.tail t h1 h2)
    have hc : cntJ R J = 0 := by omega
    have hfm : fM = 0 := by omega
    subst hfm
    obtain ⟨hall, hk⟩ := hX w (Ext.refl w)
    have hsome := cntJ_none R J hc
    have hfin : ∀ i, i < ops.size → listed.getD i false = decide (i < n) := by
      intro i hi
      by_cases hin : i < n
      · rw [decide_eq_true hin]
        rcases (hrel i hi).1 (hall i hi) with h | ⟨it, hit, rfl⟩ | h
        · exact h
        · exact (hRl it hit).2 (hsome it hit)
        · omega
      · rw [decide_eq_false hin]; exact ht i (by omega) hi
    rw [Nat.zero_add]
    exact hend listed _ w hs hfin (endJ_use J [] a hp hsome (fun it hit r hr => ⟨(hRf it hit r hr).1, by simp, (hRf it hit r hr).2.2⟩) (fun x hx y hy hne he => by
      obtain ⟨r, hr⟩ := hsome x hx
      exact hRd x hx y hy hne r hr (by rw [← he]; exact hr)) hk)
  | succ f ih =>
    intro fM R listed listedX a w inv hsx hrel hRl hRf hRd hbw hf hX
    have hs := inv.size
    have ht : ∀ t, n ≤ t → t < ops.size → listed.getD t false = false := fun t h1 h2 => getD_both (inv.tail t h1 h2)
    by_cases hdone : ∀ i, i < n → listed.getD i false = true
    · -- all but the tail have come up
      have hsome : ∀ it ∈ J, ∃ r, R it.i = some r := fun it hit => (hRl it hit).1 (hdone it.i (hJ it hit).lt)
      have hall : allB ops listedX := fun i hi => (hrel i hi).2 (by
        by_cases hin : i < n
        · exact Or.inl (hdone i hin)
        · exact Or.inr (Or.inr (by omega)))
      have hk : endJ base Kt J [] a w := by
        have := hX w (Ext.refl w)
        cases fM with
        | zero => exact this.2
        | succ g => exact this.1 hall
      have hfin : ∀ i, i < ops.size → listed.getD i false = decide (i < n) := by
        intro i hi
        by_cases hin : i < n
        · rw [decide_eq_true hin]; exact hdone i hin
        · rw [decide_eq_false hin]; exact ht i (by omega) hi
      exact wpAny_add (f + 1) (hend listed _ w hs hfin (endJ_use J [] a hp hsome (fun it hit r hr => ⟨(hRf it hit r hr).1, by simp, (hRf it hit r hr).2.2⟩) (fun x hx y hy hne he => by
        obtain ⟨r, hr⟩ := hsome x hx
        exact hRd x hx y hy hne r hr (by rw [← he]; exact hr)) hk))
    · have hun : ∃ i, i < n ∧ listed.getD i false = false := by
        apply Classical.byContradiction
        intro hno
        exact hdone (fun i hi => Classical.byContradiction fun hl => hno ⟨i, hi, by simpa using hl⟩)
      obtain ⟨u, hun1, hun2⟩ := hun
      rw [show f + 1 + (ops.size - n) = (f + (ops.size - n)) + 1 by omega]
      refine ⟨fun h0 => absurd h0 (some_ready hback hs u u (Nat.le_refl _) (by omega) hun2), fun i hi => ?_⟩
      obtain ⟨hiu, oi, hoi, hall⟩ := mem_ready.1 hi
      have his : i < ops.size := (Array.getElem?_eq_some_iff.1 hoi).1
      have hin : i < n := tail_head htail hnn inv hun1 hun2 hi
      by_cases hiJ : ∃ it ∈ J, it.i = i
      · obtain ⟨it, hit, rfl⟩ := hiJ
        obtain ⟨o, ho, hod, how, hoa, hor⟩ := (hJ it hit).op
        have : o = oi := Option.some.inj (ho.symm.trans hoi)
        subst this
        have hRn : R it.i = none := by
          cases hr : R it.i with
          | none => rfl
          | some r =>
            have := (hRl it hit).2 ⟨r, hr⟩
            rw [getD_both hiu] at this
            cases this
        have hcn := cntJ_upd (R := R) w.heap.size J hp hit hRn
        unfold wpOp
        simp only [ho]
        rw [if_pos (how _)]
        refine .inl ?_
        unfold Oper.wp
        rw [hor]
        simp only [Oper.upon, hod]
        rw [← putJ_upd w.heap.size J a hp hit hRn]
        have hE : Ext w (w.alloc (.cells it.zs it.T)) := Ext.allocR w _
        refine ih fM (upd R it.i w.heap.size) (listed.setIfInBounds it.i true) listedX a _ (inv.set hi hin) hsx ?_ ?_ ?_ ?_ (Nat.le_trans hbw hE.size) (by omega) (fun w' hx => hX w' (hE.trans hx))
        · intro k hk
          rw [hrel k hk]
          by_cases hki : k = it.i
          · subst hki
            exact ⟨fun _ => Or.inr (Or.inl ⟨it, hit, rfl⟩), fun _ => Or.inr (Or.inl ⟨it, hit, rfl⟩)⟩
          · rw [getD_set_ne false (Ne.symm hki)]
        · intro x hx
          by_cases hxi : x.i = it.i
          · rw [hxi, upd_same]
            exact ⟨fun _ => ⟨_, rfl⟩, fun _ => by simp [hs, his]⟩
          · rw [getD_set_ne false (Ne.symm hxi), upd_ne R _ hxi]
            exact hRl x hx
        · intro x hx r hr
          by_cases hxi : x.i = it.i
          · have hxe : x = it := by
              apply Classical.byContradiction
              intro hne
              have key : ∀ (L : List AJ), PwJ L → x ∈ L → it ∈ L → False := by
                intro L
                induction L with
                | nil => intro _ h _; cases h
                | cons y L ihL =>
                  intro hpl h1 h2
                  obtain ⟨g1, g2⟩ := List.pairwise_cons.1 hpl
                  rcases List.mem_cons.1 h1 with k1 | k1 <;> rcases List.mem_cons.1 h2 with k2 | k2
                  · exact hne (k1.trans k2.symm)
                  · rw [← k1] at g1; exact (g1 it k2).1 hxi
                  · rw [← k2] at g1; exact (g1 x k1).1 hxi.symm
                  · exact ihL g2 k1 k2
              exact key J hp hx hit
            subst hxe
            rw [upd_same] at hr
            injection hr with hr
            subst hr
            exact ⟨hbw, by simp, Blk.new_ _ _ rfl⟩
          · rw [upd_ne R _ hxi] at hr
            obtain ⟨g1, g2, g3⟩ := hRf x hx r hr
            exact ⟨g1, by simp; omega, g3.alloc _⟩
        · intro x hx y hy hxy r hr
          by_cases hxi : x.i = it.i
          · rw [hxi, upd_same] at hr
            injection hr with hr
            subst hr
            rw [upd_ne R _ (fun h => hxy (hxi.trans h.symm))]
            intro hc
            have := (hRf y hy _ hc).2.1
            omega
          · rw [upd_ne R _ hxi] at hr
            by_cases hyi : y.i = it.i
            · rw [hyi, upd_same]
              intro hc
              injection hc with hc
              have := (hRf x hx r hr).2.1
              omega
            · rw [upd_ne R _ hyi]
              exact hRd x hx y hy hxy r hr
      · -- one of the others
        have hXu : listedX.getD i false = false := by
          cases h : listedX.getD i false with
          | false => rfl
          | true =>
            rcases (hrel i his).1 h with h1 | h1 | h1
            · rw [getD_both hiu] at h1; cases h1
            · exact absurd h1 hiJ
            · omega
        have hrX : i ∈ Region.ready md ops listedX := by
          rw [mem_ready]
          refine ⟨getD_in (by omega) hXu, oi, hoi, fun e he hb => ?_⟩
          have h1 := hall e he hb
          have hes : e.on < ops.size := by
            rw [← hs]
            rcases Nat.lt_or_ge e.on listed.size with h | h
            · exact h
            · simp [Array.getElem?_eq_none h] at h1
          exact (hrel e.on hes).2 (Or.inl h1)
        cases fM with
        | zero =>
          have := (hX w (Ext.refl w)).1 i his
          rw [hXu] at this
          cases this
        | succ g =>
          have h1 := (hX w (Ext.refl w)).2 i hrX
          have h2 := wpOp_putJ hoi (fun cs b => Region.noSelect_spec hsel i oi cs b hoi) hQ R J _ a w (fun it hit => (hJ it hit).ap i oi hoi (fun h => hiJ ⟨it, hit, h.symm⟩) hin) h1
          refine wpOp_mono (fun a' w' h' => ?_) h2
          obtain ⟨b, rfl, hE, hK⟩ := h'
          refine ih g R (listed.setIfInBounds i true) (listedX.setIfInBounds i true) b w' (inv.set hi hin) (by simp [hsx]) ?_ ?_ ?_ hRd (Nat.le_trans hbw hE.size) (by omega) hK
          · intro k hk
            by_cases hki : k = i
            · subst hki
              exact ⟨fun _ => Or.inl (by simp [hs, his]), fun _ => by simp [hsx, his]⟩
            · rw [getD_set_ne false (Ne.symm hki), getD_set_ne false (Ne.symm hki)]
              exact hrel k hk
          · intro it hit
            rw [getD_set_ne false (fun h => hiJ ⟨it, hit, h.symm⟩)]
            exact hRl it hit
          · intro it hit r hr
            obtain ⟨g1, g2, g3⟩ := hRf it hit r hr
            exact ⟨g1, Nat.lt_of_lt_of_le g2 hE.size, g3.below hE⟩

def maskB (m n : Nat) : Array Bool := ((List.range m).map fun i => decide (i < n)).toArray
def maskX (m n : Nat) (J : List Nat) : Array Bool := ((List.range m).map fun i => J.contains i || decide (n ≤ i)).toArray
/-- All that is asked of the region itself. -/
def advB (md : Region.Mode) (ops : Array Oper) (n : Nat) (J : List (Nat × Tmp)) (is : List St) : Bool :=
  Region.noSelect ops && backB md ops && tailB md ops n && decide (n ≤ ops.size ∧ is.length + J.length = n) && Region.seqB md ops (ops.size - n) n (maskB ops.size n) && seqOk md ops is (maskX ops.size n (J.map (·.1))) &&
    J.all fun x => decide (x.1 < n) && (match ops[x.1]? with | some o => o.guard.isNone && o.dst == some x.2 && o.after.all (fun e => !Region.binds md e) | none => false) &&
      (List.range n).all fun j => j == x.1 || match ops[j]? with | some oj => !(oj.looksAt ops).contains x.2 && oj.dst != some x.2 | none => true
def pwB : List (Nat × Tmp) → Bool
  | [] => true
  | x :: J => (J.all fun y => x.1 != y.1 && x.2 != y.2) && pwB J
theorem pw_of : ∀ (J : List AJ), pwB (J.map fun x => (x.i, x.d)) = true → PwJ J
  | [], _ => List.Pairwise.nil
  | x :: J, h => by
    simp only [List.map_cons, pwB, Bool.and_eq_true, List.all_eq_true] at h
    refine List.pairwise_cons.2 ⟨fun y hy => ?_, pw_of J h.2⟩
    have := h.1 (y.i, y.d) (List.mem_map.2 ⟨y, hy, rfl⟩)
    simpa using this
theorem maskB_get (m n i : Nat) (hi : i < m) : (maskB m n).getD i false = decide (i < n) := by simp [maskB, hi]
theorem maskX_get (m n i : Nat) (J : List Nat) (hi : i < m) : (maskX m n J).getD i false = (J.contains i || decide (n ≤ i)) := by simp [maskX, hi]
theorem wanted_none {o : Oper} (h : o.guard = none) (y : Nat → Option Bool) : Region.wanted o y = true := by simp [Region.wanted, h]

/-- A region that draws its order: its operations in one order, with whatever new blocks come up between; its own new blocks; its tail. -/
theorem wp_region_adv {id : Nat} {Q : Exit → Act → World → Prop} {a : Act} {w : World} {l : List Oper} (n : Nat) (J : List AJ) (is : List St) (hm : P.follows .mixedOrders = true)
    (hB : advB .any l.toArray n (J.map fun x => (x.i, x.d)) is = true) (hpw : pwB (J.map fun x => (x.i, x.d)) = true)
    (hJ : ∀ it ∈ J, ∀ o, l.toArray[it.i]? = some o → ∀ (ev : Operand → Value) (w : World), (execOp ev o).run P w = .ok (.value (ptr w.heap.size)) (w.alloc (.cells it.zs it.T)))
    (hQ0 : ∀ c a (d : Tmp) v w, Q (.panic c) (a.put (some d) v) w ↔ Q (.panic c) a w) {W0 : World} (hW0 : Ext W0 w.drew)
    (h : wpSeq P l.toArray Q (Ext W0) (endJ w.heap.size (fun a' w' => wpList P l.toArray Q (l.drop n) a' w') J []) is a w.drew) : (Code.region id l.toArray true).wp P Q a w := by
  have hQ : ∀ c a d v w, Q (.panic c) (a.put d v) w ↔ Q (.panic c) a w := fun c a d v w => by
    cases d with
    | none => exact Iff.rfl
    | some d => exact hQ0 c a d v w
  have hp := pw_of J hpw
  simp only [advB, Bool.and_eq_true, decide_eq_true_eq] at hB
  obtain ⟨⟨⟨⟨⟨⟨hsel, hback⟩, htail⟩, hnn, hlen⟩, hseq⟩, hok⟩, hj⟩ := hB
  rw [List.length_map] at hlen
  rw [List.map_map] at hok
  have hOk : ∀ it ∈ J, OkJ P .any l.toArray n it := by
    intro it hit
    have h1 := List.all_eq_true.1 hj (it.i, it.d) (List.mem_map.2 ⟨it, hit, rfl⟩)
    simp only [Bool.and_eq_true, decide_eq_true_eq] at h1
    obtain ⟨⟨h1, h2⟩, h3⟩ := h1
    cases ho : l.toArray[it.i]? with
    | none => rw [ho] at h2; simp at h2
    | some o =>
      rw [ho] at h2
      simp only [Bool.and_eq_true, Option.isNone_iff_eq_none, beq_iff_eq] at h2
      refine ⟨h1, ⟨o, ho, h2.1.2, wanted_none h2.1.1, fun e he hb => ?_, hJ it hit o ho⟩, fun j oj hoj hji hjn => ?_⟩
      · have := Array.all_eq_true_iff_forall_mem.1 h2.2 e he
        rw [hb] at this
        cases this
      · have h4 := List.all_eq_true.1 h3 j (List.mem_range.2 hjn)
        rw [hoj] at h4
        simp only [Bool.or_eq_true, beq_iff_eq, Bool.and_eq_true, bne_iff_ne, ne_eq] at h4
        rcases h4 with h4 | h4
        · exact absurd h4 hji
        · exact ⟨by simpa using h4.1, h4.2⟩
  have hA := wpAdv_of_seq (P := P) (md := .any) (K := endJ w.heap.size (fun a' w' => wpList P l.toArray Q (l.drop n) a' w') J []) hsel (fun c a d v w h => (hQ c a d v w).1 h) (S := Ext W0) (fun w1 w2 h1 h2 => h1.trans h2)
    is (maskX l.toArray.size n (J.map (·.i))) a
  refine wp_region_any hm ?_
  have hend : ∀ (listed : Array Bool) (a : Act) (w : World), listed.size = l.toArray.size → (∀ i, i < l.toArray.size → listed.getD i false = decide (i < n)) → wpList P l.toArray Q (l.drop n) a w → wpAny P .any l.toArray Q (l.toArray.size - n) listed a w := by
    intro listed a w hs hfin hk
    have he : listed = maskB l.toArray.size n := by
      apply Array.ext
      · rw [hs]; simp [maskB]
      · intro i h1 h2
        have h3 : listed[i] = decide (i < n) := by have := hfin i (by omega); simpa [h1] using this
        rw [h3]; simp [maskB]
    have hdl : (l.drop n).length = l.toArray.size - n := by simp
    have := wpAny_of_seq (md := .any) (Q' := Q) (l.drop n) n listed a w (fun j => by simp [List.getElem?_drop]) (by rw [hdl, he]; exact hseq) hk
    rwa [hdl] at this
  have hcnt : ∀ (L : List AJ), cntJ (fun _ => none) L = L.length := by
    intro L
    induction L with
    | nil => rfl
    | cons x L ih => unfold cntJ; rw [ih]; simp only [List.length_cons]; omega
  have hput : ∀ (L : List AJ) (a : Act), putJ (fun _ => none) L a = a := by
    intro L
    induction L with
    | nil => intro _; rfl
    | cons x L ih => intro a; exact ih a
  have hmain := adv_main (md := .any) (Kt := fun a' w' => wpList P l.toArray Q (l.drop n) a' w') (base := w.heap.size) hsel hback htail hnn (fun c a d v w h => (hQ c a d v w).2 h) hOk hp hend (is.length + J.length) is.length (fun _ => none)
    (Array.replicate l.toArray.size false) (maskX l.toArray.size n (J.map (·.i))) a w.drew ⟨by simp, fun j oj _ hl => (by rw [getD_replicate_false] at hl; cases hl), fun t _ ht => getD_in (by simpa using ht) (getD_replicate_false _ _)⟩ (by simp [maskX])
    (fun i hi => by
      rw [maskX_get _ _ _ _ hi, getD_replicate_false]
      simp only [Bool.or_eq_true, decide_eq_true_eq, List.contains_iff_mem, List.mem_map]
      simp) (fun it hit => by rw [getD_replicate_false]; simp) (fun it hit r hr => by cases hr) (fun x hx y hy hne r hr => by cases hr) (Nat.le_refl _) (by rw [hcnt])
    (fun w' hx => hA w' hok (hW0.trans hx) (wpSeq_ext is _ _ _ h hx))
  rw [hput] at hmain
  rw [show is.length + J.length + (l.toArray.size - n) = l.toArray.size by omega] at hmain
  exact hmain

/-- One operation that may be taken first. -/
theorem wpSeq_pure {K : Act → World → Prop} {i : Nat} {d : Option Tmp} {is : List St} {a : Act} {w : World} {oi : Oper} {v : Value} (hi : ops[i]? = some oi)
    (hy : ∀ w, S w → (execOp a.eval oi).run P w = .ok (.value v) w) (h : wpSeq P ops Q S K is (a.put d v) w) : wpSeq P ops Q S K ((i, true, d, none) :: is) a w := ⟨oi, v, hi, hy, h⟩
/-- One with a guard, that is wanted. -/
theorem wpSeq_pureG {K : Act → World → Prop} {i : Nat} {d : Option Tmp} {t : Tmp} {b : Bool} {is : List St} {a : Act} {w : World} {oi : Oper} {v : Value} (hi : ops[i]? = some oi) (hg : a.tmps[t]? = some (.bool b))
    (hy : ∀ w, S w → (execOp a.eval oi).run P w = .ok (.value v) w) (h : wpSeq P ops Q S K is (a.put d v) w) : wpSeq P ops Q S K ((i, true, d, some (t, b)) :: is) a w := ⟨_, hg, Or.inl ⟨rfl, oi, v, hi, hy, h⟩⟩
/-- One with a guard, that is not wanted. -/
theorem wpSeq_off {K : Act → World → Prop} {i : Nat} {p : Bool} {d : Option Tmp} {t : Tmp} {b g : Bool} {is : List St} {a : Act} {w : World} (hg : a.tmps[t]? = some (.bool g)) (hb : (!b) = g)
    (h : wpSeq P ops Q S K is (a.put d undef) w) : wpSeq P ops Q S K ((i, p, d, some (t, b)) :: is) a w := by
  subst hb
  have hn : Value.bool (!b) ≠ .bool b := by cases b <;> simp
  cases p with
  | true => exact ⟨_, hg, Or.inr ⟨hn, h⟩⟩
  | false => exact ⟨_, hg, Or.inr ⟨hn, h⟩⟩
/-- One whose guard's own operation was not wanted. -/
theorem wpSeq_offU {K : Act → World → Prop} {i : Nat} {p : Bool} {d : Option Tmp} {t : Tmp} {b : Bool} {is : List St} {a : Act} {w : World} (hg : a.tmps[t]? = some undef)
    (h : wpSeq P ops Q S K is (a.put d undef) w) : wpSeq P ops Q S K ((i, p, d, some (t, b)) :: is) a w := by
  cases p with
  | true => exact ⟨_, hg, Or.inr ⟨(fun e => by cases e), h⟩⟩
  | false => exact ⟨_, hg, Or.inr ⟨(fun e => by cases e), h⟩⟩
/-- A call, or what makes a block. -/
theorem wpSeq_call {K : Act → World → Prop} {i : Nat} {d : Option Tmp} {is : List St} {a : Act} {w : World} {o : Oper} (hi : ops[i]? = some o)
    (h : ∀ w', Ext w w' → S w' → ∀ K' : Act → World → Prop, Shut (∀ a' w'', Ext w' w'' → wpSeq P ops Q S K is a' w'' → K' a' w'') → Oper.wp P o a w' K' Q) : wpSeq P ops Q S K ((i, false, d, none) :: is) a w :=
  fun w' hx hS => ⟨o, hi, h w' hx hS⟩
theorem wpSeq_callG {K : Act → World → Prop} {i : Nat} {d : Option Tmp} {t : Tmp} {b : Bool} {is : List St} {a : Act} {w : World} {o : Oper} (hi : ops[i]? = some o) (hg : a.tmps[t]? = some (.bool b))
    (h : ∀ w', Ext w w' → S w' → ∀ K' : Act → World → Prop, Shut (∀ a' w'', Ext w' w'' → wpSeq P ops Q S K is a' w'' → K' a' w'') → Oper.wp P o a w' K' Q) : wpSeq P ops Q S K ((i, false, d, some (t, b)) :: is) a w :=
  ⟨_, hg, Or.inl ⟨rfl, fun w' hx hS => ⟨o, hi, h w' hx hS⟩⟩⟩
end
end Go.Proofs.Tb
