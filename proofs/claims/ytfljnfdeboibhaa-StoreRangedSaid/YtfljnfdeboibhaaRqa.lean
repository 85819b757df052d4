/- A range over a function whose body changes what it likes, but for the loop's own book-keeping. -/
import Derived.RangeFuncWrites
set_option linter.unusedVariables false
set_option linter.unusedSimpArgs false
namespace Go.Proofs.Tb
open Go Go.RowKit

/-- An object of a loop's own book-keeping. -/
def Bk : Obj → Bool
  | .loop _ => true
  | .deferred _ => true
  | _ => false
/-- The two objects that a loop lays stay. -/
structure Kp2 (B : Nat) (W W' : World) : Prop where
  fst : ∀ o : Obj, W.heap[B]? = some o → Bk o = true → W'.heap[B]? = some o
  snd : ∀ o : Obj, W.heap[B + 1]? = some o → Bk o = true → W'.heap[B + 1]? = some o
/-- What is said does not speak of such objects from B on. -/
def BkF {β : Type} (B : Nat) (I : β → World → Prop) : Prop :=
  ∀ s W W' row, I s W → W.grownBy W' row → (∀ r, row = some r → B ≤ r ∧ ∃ o : Obj, W.heap[r]? = some o ∧ Bk o = true) → I s W'
theorem BkF.put {β : Type} {B : Nat} {I : β → World → Prop} (h : BkF B I) {s : β} {W : World} {l : Nat} {o : Obj} (o' : Obj) (hs : I s W) (hB : B ≤ l) (hl : W.heap[l]? = some o) (ho : Bk o = true) : I s (W.putObj l o') :=
  h s W _ (some l) hs (grownBy_putObj' W l o') fun r e => by cases e; exact ⟨hB, o, hl, ho⟩
theorem BkF.new {β : Type} {B : Nat} {I : β → World → Prop} (h : BkF B I) {s : β} {W : World} (o : Obj) (hs : I s W) : I s (W.alloc o) :=
  h s W _ none hs (World.grownBy_alloc W o none) fun r e => by cases e
/-- How a round ends. -/
def rdP {α : Type} (B : Nat) (Kp : World → World → Prop) (I : List α → World → Prop) (xs : List α) (W : World) : Exit → Act → World → Prop
  | .normal, _, W' => Kp2 B W W' ∧ Kp W W' ∧ I xs W'
  | .ret, _, _ => False
  | .exit _, _, _ => False
  | .goto _, _, _ => False
  | .panic _, _, _ => False
  | .outgrown, _, _ => False
theorem lt_obj {W : World} {k : Nat} {o : Obj} (h : W.heap[k]? = some o) : k < W.heap.size := (Array.getElem?_eq_some_iff.1 h).1
variable {F : Fence} {n : Nat} {P : Program}
/-- What an iterator that keeps no object of its own does, where every round goes on. -/
def SeqD {α : Type} (F : Fence) (n : Nat) (P : Program) (g : Nat) (lb : Array Value) (encs : α → Array Value) (Kp : World → World → Prop) (S : List α → Prop) (N : Nat) (w : World) : Prop :=
  ∀ (l : Nat) (J : List α → World → Prop) (W : World), Below w.heap.size w W → (∀ pre X, J pre X → J pre X.drew) →
    (∀ pre x X, J pre X → pre.length < N → YieldAt F (n - 1) P l (encs x) X fun e X' => e = .returned (.bool true) ∧ J (pre ++ [x]) X' ∧ Kp X X') → J [] W →
    CallsIn F n P g (#[.func (.yield l) #[] #[]] ++ lb) W fun e X => (∃ v, e = .returned v) ∧ ∃ xs, S xs ∧ J xs X
theorem range_all {α : Type} {g : Operand} {ps : Array Tmp} {assign body : Code} {Q : Exit → Act → World → Prop} {a : Act} {w : World}
    (hro : F.round = none) (h1 : 1 ≤ n) {gf : Nat} {lb : Array Value} (hg : a.eval g = .func (.func gf) #[] lb) (hFg : F.fn gf) (eg : ∀ args w, (callFunc gf args).run P w = .ok (.enter gf args) w)
    {encs : α → Array Value} {Kp : World → World → Prop} {S : List α → Prop} {N : Nat} {w0 : World} (hseq : SeqD F (n - 1) P gf lb encs Kp S N w0)
    (hKt : ∀ {A B C : World}, Kp A B → Kp B C → Kp A C) (hKb : ∀ (W : World) (l : Nat) (o o' : Obj), w.heap.size ≤ l → W.heap[l]? = some o → o.isCells = false → o.isWalk = false → Kp W (W.putObj l o')) (hb0 : Below w0.heap.size w0 w) (hps : ∀ x, (encs x).size = ps.size)
    (I : List α → World → Prop) (hI : BkF w.heap.size I) (h0 : I [] w) (a₁ : α → Act)
    (hassign : ∀ (l : Nat) (x : α) (W : World) (K : Act → World → Prop), K (a₁ x) W →
      assign.wpIn (F.inRound l) (n - 1 - 1) P (Exit.then K (fun _ _ _ => False)) { tmps := (ps.zip (encs x)).foldl (fun t (p, v) => t.setIfInBounds p v) a.tmps, defers := [] } W)
    (hbody : ∀ (l : Nat) (pre : List α) (x : α) (W : World), I pre W → pre.length < N → (∃ r : Loop, W.heap[w.heap.size + 1]? = some (.loop r)) → W.heap[w.heap.size]? = some (.deferred (some [])) → body.wpIn (F.inRound l) (n - 1 - 1) P (rdP w.heap.size Kp I (pre ++ [x]) W) (a₁ x) W)
    (hdone : ∀ (xs : List α) (W : World), S xs → I xs W → W.heap[w.heap.size]? = some (.deferred (some [])) → Q .normal { a with defers := { target := .collected w.heap.size, args := #[] } :: a.defers } W) :
    (Code.rangeFunc g ps assign body).wpIn F n P Q a w := by
  refine wpIn_rangeFunc fun fn hfn => ?_
  rw [hro]
  obtain ⟨R, hR⟩ : ∃ R : LoopState → Loop, ∀ st, R st = { state := st, pending := none, fn := fn, tmps := a.tmps, params := ps, assign := assign, body := body, defers := w.heap.size } := ⟨_, fun _ => rfl⟩
  have kR : ∀ st, Bk (.loop (R st)) = true := fun _ => rfl
  have kD : Bk (.deferred (some [])) = true := rfl
  obtain ⟨B, hB⟩ : ∃ B, w.heap.size = B := ⟨_, rfl⟩
  -- the world behind the entry
  obtain ⟨V, hV⟩ : ∃ V, (w.alloc (.deferred (some []))).alloc (.loop (R .ready)) = V := ⟨_, rfl⟩
  have vL : V.heap[B + 1]? = some (.loop (R .ready)) := by
    have h := World.alloc_heap_new (w.alloc (.deferred (some []))) (.loop (R .ready))
    rw [World.size_alloc, hB, hV] at h; exact h
  have vD : V.heap[B]? = some (.deferred (some [])) := by
    rw [← hV, ← hB]
    exact (Below.heap_alloc _ _ _ (by simp)).trans (World.alloc_heap_new w _)
  have vS : B + 2 = V.heap.size := by rw [← hV, World.size_alloc, World.size_alloc, hB]
  have vI : I [] V := by rw [← hV]; exact hI.new _ (hI.new _ h0)
  have vB : Below w0.heap.size w0 V := by
    rw [← hV]
    exact hb0.trans ((((Below.refl _ w).alloc (Nat.le_refl _) _).alloc (by simp) _).mono hb0.size)
  have hent := run_enterLoop_outer (P := P) (w := w) fn a.tmps ps assign body
  rw [← hR .ready, hV, hB] at hent
  refine ⟨B + 1, [{ target := .collected B, args := #[] }], V, { target := .fn (.func gf) lb, args := #[.func (.yield (B + 1)) #[] #[]] }, V, gf, #[.func (.yield (B + 1)) #[] #[]] ++ lb, V, hent, ?_, ?_, ?_, fun _ => h1, ?_⟩
  · simp only [resolve, hg]
    simp [go_sem]
  · intro f' hf'
    simp [Target.leads] at hf'
    subst hf'
    exact hFg
  · simp [invoke, go_sem, eg]
  refine (hseq (B + 1) (fun pre W => I pre W ∧ W.heap[B + 1]? = some (.loop (R .ready)) ∧ W.heap[B]? = some (.deferred (some []))) V vB (fun pre X h => ⟨hI pre X X.drew none h.1 ⟨rfl, rfl, rfl, Nat.le_refl _, fun _ _ _ => rfl⟩ (fun r e => by cases e), h.2⟩) ?_ ⟨vI, vL, vD⟩).mono ?_
  · rintro pre x W ⟨hi, hl, hd⟩ hlen
    have hy := run_yield (P := P) (args := encs x) hl (by rw [hR]; exact hps x)
    rw [hR] at hy
    refine ⟨fn, _, assign, body, hy, roundIn_of_wpIn hfn (hassign _ x W _ ⟨_, run_beginRound hl (by rw [hR]), ?_⟩)⟩
    have e1 : ({ R .ready with state := .busy } : Loop) = R .busy := by rw [hR, hR]
    rw [e1]
    have gL : (W.putObj (B + 1) (.loop (R .busy))).heap[B + 1]? = some (.loop (R .busy)) := World.putObj_heap_same (lt_obj hl)
    have gD : (W.putObj (B + 1) (.loop (R .busy))).heap[B]? = some (.deferred (some [])) := (World.putObj_heap_other (by omega)).trans hd
    refine wpIn_mono (hbody _ pre x _ (hI.put _ hi (by omega) hl (kR _)) hlen ⟨_, by rw [hB]; exact gL⟩ (by rw [hB]; exact gD)) ?_
    rintro e a3 X hp
    cases e with
    | normal =>
      obtain ⟨hk2, hkp, hi3⟩ := hp
      rw [hB] at hk2
      have xL := hk2.snd _ gL (kR _)
      have xD := hk2.fst _ gD kD
      have hr := run_endRound (P := P) none xL
      have e2 : ({ R .busy with state := if (none : Option Code).isNone then .ready else .done, pending := none } : Loop) = R .ready := by rw [hR, hR]; rfl
      rw [e2] at hr
      exact ⟨_, _, hr, rfl, ⟨hI.put _ hi3 (by omega) xL (kR _), World.putObj_heap_same (lt_obj xL), (World.putObj_heap_other (by omega)).trans xD⟩, hKt (hKt (hKb _ _ _ _ (by omega) hl rfl rfl) hkp) (hKb _ _ _ _ (by omega) xL rfl rfl)⟩
    | ret => exact hp.elim
    | exit id => exact hp.elim
    | goto t => exact hp.elim
    | panic ch => exact hp.elim
    | outgrown => exact hp.elim
  · rintro e W2 ⟨⟨v, rfl⟩, xs, hS, hi, hl, hd⟩
    · have ep : (R .ready).pending = none := by rw [hR]
      have he : (Instr.endLoop (B + 1)).run P W2 = .ok none (W2.putObj (B + 1) (.loop { R .ready with state := .exhausted })) := (run_endLoop (P := P) hl (by rw [hR]; simp)).trans (congrArg (fun p => Result.ok p _) ep)
      refine ⟨none, _, he, ?_⟩
      have hd2 : (W2.putObj (B + 1) (.loop { R .ready with state := .exhausted })).heap[B]? = some (.deferred (some [])) := (World.putObj_heap_other (by omega)).trans hd
      have hq := hdone xs (W2.putObj (B + 1) (.loop { R .ready with state := .exhausted })) hS (hI.put _ hi (by omega) hl (kR _)) (by rw [hB]; exact hd2)
      rw [hB] at hq
      exact hq
end Go.Proofs.Tb
