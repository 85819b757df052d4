/- A plain law on the machine: the count of what has been asked of the tape never falls, whatever steps are made; so behind a call that returns it is at least what it was. With it a contract that says which blocks are kept says how the world behind it stands. No statement of the program stands here. -/
import Derived.Calls
import Derived.Below
import Derived.Deep.Draws
import Derived.Sort.Grow
set_option linter.unusedVariables false
set_option linter.unusedSimpArgs false
namespace Go.Proofs.Tb

/-- What a computation ends in has asked at least d times. -/
def resOk {α : Type} (d : Nat) : Result α → Prop
  | .ok _ w => d ≤ w.drawn
  | .halt _ w => d ≤ w.drawn
def gOk (d : Nat) : GStep → Prop
  | .ended _ _ _ => True
  | .go _ w _ => d ≤ w.drawn
  | .comm _ _ _ _ w _ => d ≤ w.drawn
  | .spawn _ _ w _ => d ≤ w.drawn
  | .count _ w _ => d ≤ w.drawn
  | .timer _ _ w _ => d ≤ w.drawn
  | .alone _ _ w _ => d ≤ w.drawn
  | .newcoro _ _ _ w _ => d ≤ w.drawn
  | .coroswitch _ _ _ w _ => d ≤ w.drawn
  | .collect _ w _ => d ≤ w.drawn
  | .watch _ w _ => d ≤ w.drawn
def stOk (d : Nat) : Stepped → Prop
  | .next m => d ≤ m.world.drawn
  | .ended _ _ => True
def mvOk (d : Nat) : Move → Prop
  | .goroutine m _ => d ≤ m.world.drawn
  | .machine s _ => stOk d s
theorem gOk_after (d : Nat) (es : Array Event) (g : GStep) : gOk d (g.after es) = gOk d g := by cases g <;> rfl
theorem ask_ok {α : Type} (d : Nat) (q : Ask α) : ∀ w : World, d ≤ w.drawn → d ≤ (w.ask q).2.drawn := by
  induction q with
  | done a => intro w h; exact h
  | ask what range k ih =>
    intro w h
    simp only [World.ask]
    split
    · exact ih _ _ h
    · exact ih _ _ (Nat.le_succ_of_le h)
theorem sys_ok (d : Nat) (w : World) (c : Sys) (h : d ≤ w.drawn) : d ≤ (w.sys c).2.drawn := by
  have := ask_ok d (Kernel.perform c w.os) w h
  unfold World.sys
  split
  · exact h
  · rename_i e
    rw [e] at this
    exact this
theorem drawn_setCell (w : World) (a : Addr) (v : Value) : (w.setCell a v).drawn = w.drawn := rfl
theorem drawn_freeze (w : World) (a : Addr) (n : Nat) : (w.freeze a n).drawn = w.drawn := by unfold World.freeze; split <;> rfl
theorem viewStore_ok (p : Program) (w : World) (at_ : Addr) (u : TypeId) (k : Addr) (v : Value) (b : Bool) (r : World × List Addr) (h : w.viewStore p at_ u k v b = .ok r) : r.1.drawn = w.drawn := by
  unfold World.viewStore at h
  simp only [bind, Except.bind, pure, Except.pure, throw, throwThe, MonadExceptOf.throw] at h
  repeat' (split at h)
  all_goals first | (cases h; done) | (injection h with h; subst h; rfl) | skip
theorem farStore_ok (p : Program) (w : World) (a : Addr) (v : Value) (b : Bool) (r : World × List Addr) (h : w.farStore p a v b = .ok r) : r.1.drawn = w.drawn := by
  unfold World.farStore at h
  split at h
  · split at h
    · rename_i e
      injection h with h
      subst h
      exact viewStore_ok _ _ _ _ _ _ _ _ e
    · cases h
  · cases h
theorem run_ok {α : Type} (p : Program) (d : Nat) (s : Sem α) : ∀ w : World, d ≤ w.drawn → resOk d (s.run p w) := by
  induction s with
  | pure a => intro w h; exact h
  | load m a k ih =>
    intro w h
    simp only [Sem.run]
    split
    · exact ih _ _ h
    · split
      · exact ih _ _ h
      · exact h
  | store m a v k ih =>
    intro w h
    cases v <;> first
      | exact h
      | (simp only [Sem.run]
         split
         · split
           · exact h
           · exact ih _ h
         · split
           · rename_i e
             refine ih _ ?_
             have := farStore_ok _ _ _ _ _ _ e
             dsimp only at this
             rw [this]; exact h
           · exact h)
  | new o k ih => intro w h; exact ih _ _ h
  | shape r k ih => intro w h; exact ih _ _ h
  | freeze a n k ih => intro w h; exact ih _ (by rw [drawn_freeze]; exact h)
  | frozen a k ih => intro w h; exact ih _ _ h
  | getObj r k ih =>
    intro w h
    simp only [Sem.run]
    split <;> first | exact h | exact ih _ _ h
  | setObj r o k ih =>
    intro w h
    simp only [Sem.run]
    split <;> first | exact h | exact ih _ h
  | choose q k ih =>
    intro w h
    simp only [Sem.run]
    split
    · exact ih _ _ h
    · exact ih _ _ (Nat.le_succ_of_le h)
  | sys c k ih => intro w h; exact ih _ _ (sys_ok d w c h)
  | program k ih => intro w h; exact ih _ _ h
  | mark m k ih => intro w h; exact ih _ h
  | halt h' => intro w h; exact h
theorem runT_ok {α : Type} (p : Program) (d : Nat) (s : Sem α) : ∀ (w : World) (es : Array Event), d ≤ w.drawn → resOk d (s.runT p w es).1 := by
  induction s with
  | pure a => intro w es h; exact h
  | load m a k ih =>
    intro w es h
    simp only [Sem.runT]
    split
    · exact ih _ _ _ h
    · split
      · exact ih _ _ _ h
      · exact h
  | store m a v k ih =>
    intro w es h
    cases v <;> first
      | exact h
      | (simp only [Sem.runT]
         split
         · split
           · exact h
           · exact ih _ _ h
         · split
           · rename_i e
             refine ih _ _ ?_
             have := farStore_ok _ _ _ _ _ _ e
             dsimp only at this
             rw [this]; exact h
           · exact h)
  | new o k ih => intro w es h; exact ih _ _ _ h
  | shape r k ih => intro w es h; exact ih _ _ _ h
  | freeze a n k ih => intro w es h; exact ih _ _ (by rw [drawn_freeze]; exact h)
  | frozen a k ih => intro w es h; exact ih _ _ _ h
  | getObj r k ih =>
    intro w es h
    simp only [Sem.runT]
    split <;> first | exact h | exact ih _ _ _ h
  | setObj r o k ih =>
    intro w es h
    simp only [Sem.runT]
    split <;> first | exact h | exact ih _ _ h
  | choose q k ih =>
    intro w es h
    simp only [Sem.runT]
    split
    · exact ih _ _ _ h
    · exact ih _ _ _ (Nat.le_succ_of_le h)
  | sys c k ih => intro w es h; exact ih _ _ _ (sys_ok d w c h)
  | program k ih => intro w es h; exact ih _ _ _ h
  | mark m k ih => intro w es h; exact ih _ _ h
  | halt h' => intro w es h; exact h
theorem run_eq {α : Type} {p : Program} {d : Nat} {w w' : World} {s : Sem α} {a : α} (e : s.run p w = .ok a w') (h : d ≤ w.drawn) : d ≤ w'.drawn := by
  have := run_ok p d s w h
  rw [e] at this
  exact this
theorem run_eqH {α : Type} {p : Program} {d : Nat} {w w' : World} {s : Sem α} {a : Halt} (e : s.run p w = .halt a w') (h : d ≤ w.drawn) : d ≤ w'.drawn := by
  have := run_ok p d s w h
  rw [e] at this
  exact this
theorem runT_eq {α : Type} {p : Program} {d : Nat} {w w' : World} {s : Sem α} {a : α} {es es' : Array Event} (e : s.runT p w es = (.ok a w', es')) (h : d ≤ w.drawn) : d ≤ w'.drawn := by
  have := runT_ok p d s w es h
  rw [e] at this
  exact this
theorem runT_eqH {α : Type} {p : Program} {d : Nat} {w w' : World} {s : Sem α} {a : Halt} {es es' : Array Event} (e : s.runT p w es = (.halt a w', es')) (h : d ≤ w.drawn) : d ≤ w'.drawn := by
  have := runT_ok p d s w es h
  rw [e] at this
  exact this
theorem runT_fst {α : Type} {p : Program} {d : Nat} {w w' : World} {s : Sem α} {a : α} {es : Array Event} (e : (s.runT p w es).1 = .ok a w') (h : d ≤ w.drawn) : d ≤ w'.drawn := by
  have := runT_ok p d s w es h
  rw [e] at this
  exact this
theorem runT_fstH {α : Type} {p : Program} {d : Nat} {w w' : World} {s : Sem α} {a : Halt} {es : Array Event} (e : (s.runT p w es).1 = .halt a w') (h : d ≤ w.drawn) : d ≤ w'.drawn := by
  have := runT_ok p d s w es h
  rw [e] at this
  exact this
section
variable {p : Program} {d : Nat} {w : World}
theorem doReturn_ok (main : Bool) (fr : Frame) (callers : List Frame) (dying : Option Dying) (v : Value) (h : d ≤ w.drawn) : gOk d (doReturn p main fr callers dying v w) := by
  unfold doReturn
  repeat' split
  all_goals first | exact h | trivial
theorem endFatal_ok (fr : Frame) (callers : List Frame) (dying : Option Dying) (m : String) (h : d ≤ w.drawn) : gOk d (endFatal p fr callers dying m w) := by
  unfold endFatal
  dsimp only
  split
  · rename_i e
    exact run_eq e h
  · trivial
  · trivial
theorem early_ok (fr : Frame) (callers : List Frame) (dying : Option Dying) (g : Nat) (h : d ≤ w.drawn) : gOk d (early p fr callers dying g w) := by
  unfold early
  dsimp only
  repeat' split
  all_goals first | exact h | trivial | skip
  all_goals (have e := ‹Sem.run _ _ _ = Result.ok _ _›; have e' := run_eq e h; exact e')
theorem after_ok (es : Array Event) (g : GStep) (h : gOk d g) : gOk d (g.after es) := by rw [gOk_after]; exact h
theorem gOk_ite {c : Prop} [Decidable c] {a b : GStep} (ha : gOk d a) (hb : gOk d b) : gOk d (if c then a else b) := by split <;> assumption
theorem callDeferred_ok (fr : Frame) (callers : List Frame) (dying : Option Dying) (c : Deferred) (h : d ≤ w.drawn) : gOk d (callDeferred p fr callers dying c w) := by
  unfold callDeferred
  refine gOk_ite trivial ?_
  · have hr := runT_ok p d (invoke c.target c.args) w #[] h
    dsimp only
    generalize (invoke c.target c.args).runT p w #[] = r at hr ⊢
    obtain ⟨r, es⟩ := r
    refine after_ok _ _ ?_
    rcases r with ⟨a, w'⟩ | ⟨a, w'⟩ <;> (replace hr : d ≤ w'.drawn := hr) <;> clear h <;> cases a <;> (repeat' split) <;> first | trivial | (injections; done) | (injections; subst_vars; first | exact hr | exact endFatal_ok _ _ _ _ hr)
theorem endPrinting_ok (fr : Frame) (v : Value) (h : d ≤ w.drawn) : gOk d (endPrinting p fr v w) := by
  unfold endPrinting
  dsimp only
  repeat' split
  all_goals first | exact h | trivial
theorem unwind_ok (main : Bool) (fr : Frame) (callers : List Frame) (dying : Option Dying) (h : d ≤ w.drawn) : gOk d (unwind p main fr callers dying w) := by
  unfold unwind
  split
  · rename_i block _ _ _
    have hr := runT_ok p d (Instr.takeDeferred block) w #[] h
    dsimp only
    generalize (Instr.takeDeferred block).runT p w #[] = r at hr ⊢
    obtain ⟨r, es⟩ := r
    refine after_ok _ _ ?_
    rcases r with ⟨a, w'⟩ | ⟨a, w'⟩
    · exact hr
    · trivial
  · exact callDeferred_ok _ _ _ _ h
  · split
    · trivial
    · split
      · trivial
      · split
        · exact h
        · split
          · split
            · exact h
            · split
              · rename_i e
                exact run_eq e h
              · trivial
              · trivial
          · split
            · unfold endPrinting
              dsimp only
              repeat' split
              all_goals first | exact h | trivial
            · trivial
    · split
      · exact doReturn_ok _ _ _ _ _ h
      · rename_i fn _
        have hr := runT_ok p d (results fn fr.tmps) w #[] h
        dsimp only
        generalize (results fn fr.tmps).runT p w #[] = r at hr ⊢
        obtain ⟨r, es⟩ := r
        refine after_ok _ _ ?_
        rcases r with ⟨a, w'⟩ | ⟨a, w'⟩
        · exact doReturn_ok _ _ _ _ _ hr
        · cases a <;> trivial
theorem endWith_ok (w : World) (fd : Nat) (text : ByteArray) (o : Outcome) : gOk d (endWith w fd text o) := by
  unfold endWith
  dsimp only
  repeat' split
  all_goals trivial
theorem writeOn_ok (fr : Frame) (y : Dying) (f : Fatal) (h : d ≤ w.drawn) : gOk d (writeOn p fr y f w) := by
  unfold writeOn
  dsimp only
  split
  · trivial
  · split
    · rename_i e
      exact runT_eq e h
    · rename_i e
      exact runT_eqH e h
    · trivial
    · trivial
theorem die_ok (fr : Frame) (y : Dying) (h : d ≤ w.drawn) : gOk d (die p fr y w) := by
  unfold die
  split
  · exact writeOn_ok _ _ _ h
  · split
    · split
      · exact h
      · exact endWith_ok _ _ _ _
    · dsimp only
      split
      · exact h
      · split
        · rename_i e
          exact run_eq e h
        · trivial
      · rename_i t recv name _
        have hr := runT_ok p d (invoke (.fn (.method name) #[]) #[.iface t recv]) w #[] h
        generalize (invoke (.fn (.method name) #[]) #[.iface t recv]).runT p w #[] = r at hr ⊢
        obtain ⟨r, es⟩ := r
        refine after_ok _ _ ?_
        rcases r with ⟨a, w'⟩ | ⟨a, w'⟩ <;> (replace hr : d ≤ w'.drawn := hr) <;> clear h <;> cases a <;> (repeat' split) <;> first | trivial | (injections; done) | (injections; subst_vars; first | exact hr | exact endPrinting_ok _ _ hr)
      · trivial
theorem apply_ok (listen : Bool) (fr : Frame) (callers : List Frame) (dying : Option Dying) (s : Sem Next) (h : d ≤ w.drawn) : gOk d (stepG.apply p listen fr callers dying s w) := by
  have hr : resOk d (if listen then s.runT p w #[] else (s.run p w, #[])).1 := by
    split
    · exact runT_ok p d s w #[] h
    · exact run_ok p d s w h
  unfold stepG.apply
  dsimp only
  generalize (if listen then s.runT p w #[] else (s.run p w, #[])) = r at hr ⊢
  obtain ⟨r, es⟩ := r
  refine after_ok _ _ ?_
  rcases r with ⟨a, w'⟩ | ⟨a, w'⟩ <;> (replace hr : d ≤ w'.drawn := hr) <;> clear h <;> cases a <;> (repeat' split) <;> first | trivial | (injections; done) | (injections; subst_vars; first | exact hr | exact endFatal_ok _ _ _ _ hr | exact early_ok _ _ _ _ hr)
theorem oper_ok (listen : Bool) (fr : Frame) (callers : List Frame) (dying : Option Dying) (h : d ≤ w.drawn) : gOk d (stepG.oper p listen fr callers dying w) := by
  unfold stepG.oper
  repeat' split
  all_goals first | trivial | exact apply_ok _ _ _ _ _ h
theorem gOk_elim {α : Type} {o : Option α} {a : GStep} {b : α → GStep} (ha : gOk d a) (hb : ∀ x, gOk d (b x)) : gOk d (o.elim a b) := by cases o with
  | none => exact ha
  | some x => exact hb x
theorem exec_ok (main listen : Bool) (fr : Frame) (callers : List Frame) (dying : Option Dying) (h : d ≤ w.drawn) : gOk d (stepG.exec p main listen fr callers dying w) := by
  unfold stepG.exec
  dsimp only
  repeat' (first | split | refine gOk_elim ?_ (fun _ => ?_))
  all_goals first
    | trivial
    | exact h
    | exact oper_ok _ _ _ _ h
    | exact apply_ok _ _ _ _ _ h
    | exact after_ok _ _ trivial
    | exact after_ok _ _ (doReturn_ok _ _ _ _ _ (runT_fst (by assumption) h))
    | exact after_ok _ _ (apply_ok _ _ _ _ _ (runT_fst (by assumption) h))
    | (refine after_ok _ _ ?_; show d ≤ World.drawn _; first | exact runT_fst (by assumption) h | exact runT_fstH (by assumption) h)
    | (show d ≤ World.drawn _; exact run_eq (by assumption) h)
theorem stepG_ok (main listen : Bool) (g : Goroutine) (h : d ≤ w.drawn) : gOk d (stepG p main g w listen) := by
  unfold stepG
  dsimp only
  split
  · exact die_ok _ _ h
  · exact exec_ok _ _ _ _ _ h
  · exact unwind_ok _ _ _ _ h
theorem mv_put (g : Goroutine) (gs : Array Goroutine) : True := trivial
theorem waitingAt_ok {rest : Rest} {cs : Array CommCase} {w' : World} (e : waitingAt rest cs w = some w') (h : d ≤ w.drawn) : d ≤ w'.drawn := by
  unfold waitingAt at e
  repeat' (split at e)
  all_goals first | (injection e with e; subst e; exact h) | cases e
theorem communicate_ok (rest : Rest) (gs : Array Goroutine) (i : Nat) (g : Goroutine) (cases_ : Array CommCase) (blocking : Bool) (shape : CommShape) (h : d ≤ w.drawn) : stOk d (communicate p rest gs i g cases_ blocking shape w).1 := by
  unfold communicate
  dsimp only
  repeat' split
  all_goals first
    | trivial
    | exact h
    | (show d ≤ World.drawn _; exact run_eq (by assumption) h)
    | (show d ≤ World.drawn _; exact run_eq (by assumption) (run_eq (by assumption) h))
    | (show d ≤ World.drawn _; exact waitingAt_ok (by assumption) h)
    | (show d ≤ World.drawn _; dsimp only; exact run_eq (by assumption) h)
    | (show d ≤ World.drawn _; dsimp only; exact run_eqH (by assumption) (run_eq (by assumption) h))
    | (show d ≤ World.drawn _; dsimp only; exact run_eq (by assumption) (run_eq (by assumption) h))
theorem look_ok (gs : Array Goroutine) (rest : Rest) (h : d ≤ w.drawn) : stOk d (look p gs rest w) := by
  unfold look
  dsimp only
  repeat' split
  all_goals first
    | trivial
    | (show d ≤ World.drawn _; dsimp only; exact run_eq (by assumption) h)
theorem endThrow_ok (fr : Frame) (m : String) (h : d ≤ w.drawn) : gOk d (endThrow fr m w) := by
  unfold endThrow dieOf
  exact h
theorem drain_drawn (w : World) (c : Nat) : (drain w c).2.drawn = w.drawn := by
  unfold drain
  split <;> rfl
theorem retime_drawn (m : Machine) (k : Nat) (t : Timer) (a b : Nat) : (retime m k t a b).2.world.drawn = m.world.drawn := by
  unfold retime
  dsimp only
  cases t.chan with
  | none => rfl
  | some c => exact drain_drawn _ _
theorem named_drawn {m : Machine} {var : Addr} {f : Nat → Timer → Value × Machine} (hf : ∀ k t, (f k t).2.world.drawn = m.world.drawn) {r : Value × Machine} (e : timerOp.named m var f = .ok r) : r.2.world.drawn = m.world.drawn := by
  unfold timerOp.named at e
  split at e
  · injection e with e; subst e; exact hf _ _
  · cases e
theorem timerOp_drawn {m : Machine} {op : TimerOp} {r : Value × Machine} (e : timerOp m op = .ok r) : r.2.world.drawn = m.world.drawn := by
  unfold timerOp at e
  split at e
  · split at e
    · injection e with e; subst e; rfl
    · split at e
      · split at e
        · cases e
        · injection e with e; subst e; rfl
      · cases e
  · exact named_drawn (fun k t => retime_drawn _ _ _ _ _) e
  · split at e
    · rename_i m1 e1
      have hm : m1.world.drawn = m.world.drawn := by
        unfold timerOp.opened at e1
        split at e1
        · split at e1
          · injection e1 with e1; subst e1; rfl
          · cases e1
        · injection e1 with e1; subst e1; rfl
      exact named_drawn (fun k t => (retime_drawn _ _ _ _ _).trans hm) e
    · cases e
  · injection e with e; subst e; rfl
theorem serve_ok (m : Machine) (k : Nat) (h : d ≤ m.world.drawn) : stOk d (serve p m k) := by
  unfold serve
  split
  · trivial
  · exact h
  · dsimp only
    split
    · trivial
    · exact h
theorem askOn_ok (m : Machine) (h : d ≤ m.world.drawn) : mvOk d (askOn p m) := by
  unfold askOn
  dsimp only
  split
  · trivial
  · rename_i e
    have h1 := run_eq e h
    split
    · exact serve_ok _ _ h1
    · split
      · split
        · exact h1
        · split
          · exact h1
          · split
            · trivial
            · trivial
      · split
        · split
          · trivial
          · rename_i e5
            have h5 := run_eq e5 h1
            split
            · exact h5
            · split
              · trivial
              · rename_i e6
                exact run_eq e6 h5
        · split
          · trivial
          · rename_i e2
            have h2 := run_eq e2 h1
            split
            · trivial
            · rename_i e5
              have h5 := run_eq e5 h2
              split
              · exact h5
              · split
                · trivial
                · rename_i e6
                  exact run_eq e6 h5
          · rename_i e2
            have h2 := run_eq e2 h1
            exact h2
          · rename_i e2
            have h2 := run_eq e2 h1
            split
            · trivial
            · rename_i e5
              have h5 := run_eq e5 h2
              split
              · exact h5
              · split
                · trivial
                · rename_i e6
                  exact run_eq e6 h5
theorem asks_ok (m : Machine) (h : d ≤ m.world.drawn) : mvOk d (ask p m) := by
  unfold ask
  split
  · split
    · trivial
    · rename_i e
      have h1 := look_ok (p := p) m.gs m.rest (run_eq e h)
      split
      · rename_i m' e2
        rw [e2] at h1
        exact askOn_ok _ h1
      · exact h1
    · rename_i e
      exact askOn_ok _ (run_eq e h)
  · exact askOn_ok _ h
theorem move_ok (m : Machine) (h : d ≤ m.world.drawn) : mvOk d (move p m) := by
  unfold move
  split
  · split
    · exact h
    · trivial
  · split
    · split
      · exact h
      · exact asks_ok _ h
    · exact asks_ok _ h
theorem coro_ok (g : Goroutine) (gs : Array Goroutine) (i : Nat) (rest : Rest) (m : String) (h : d ≤ w.drawn) : stOk d (match endThrow g.frame m w with
      | .go g w _ => .next { world := w, gs := gs.setIfInBounds i g, rest }
      | _ => .ended (.stuck "" "") w) := by
  have := endThrow_ok (d := d) g.frame m h
  split
  · rename_i e; rw [e] at this; exact this
  · trivial
theorem runTs_ok (m : Machine) (i : Nat) (listen : Bool) (h : d ≤ m.world.drawn) : stOk d (runT p m i listen).1 := by
  unfold runT
  dsimp only
  generalize m.gs.swapAt! i { (default : Goroutine) with status := .finished } = x
  obtain ⟨g, gs⟩ := x
  dsimp only
  have hs := stepG_ok (p := p) (i == 0) listen g h
  generalize stepG p (i == 0) g m.world listen = s at hs ⊢
  cases s with
  | ended o w es => trivial
  | comm g cases_ blocking shape w es => exact communicate_ok _ _ _ _ _ _ _ hs
  | go g w es => exact hs
  | spawn g child w es => exact hs
  | count g w es =>
    dsimp only
    split
    · trivial
    · exact hs
  | timer g op w es =>
    dsimp only
    split
    · rename_i e
      have := timerOp_drawn e
      show d ≤ World.drawn _
      dsimp only at this
      rw [this]; exact hs
    · exact coro_ok _ _ _ _ _ hs
    · trivial
    · trivial
  | alone g on w es => exact hs
  | newcoro g c dd w es => exact hs
  | coroswitch g c exit w es =>
    dsimp only
    split
    · exact hs
    · exact coro_ok _ _ _ _ _ hs
    · trivial
  | collect g w es => exact look_ok _ _ hs
  | watch g w es => exact hs
theorem step_ok {m m' : Machine} (e : step p m = .next m') : m.world.drawn ≤ m'.world.drawn := by
  have h : stOk m.world.drawn (step p m) := by
    unfold step stepT
    have hm := move_ok (p := p) m (Nat.le_refl _)
    generalize move p m = x at hm ⊢
    cases x with
    | goroutine m1 i => exact runTs_ok _ _ _ hm
    | machine s ops => exact hm
  rw [e] at h
  exact h
theorem steps_ok {m m' : Machine} (h : Steps p m m') : m.world.drawn ≤ m'.world.drawn := by
  obtain ⟨n, h⟩ := h
  induction n generalizing m with
  | zero =>
    have : m = m' := by simpa [runN] using h
    rw [this]; exact Nat.le_refl _
  | succ n ih =>
    unfold runN at h
    split at h
    · rename_i m1 e
      exact Nat.le_trans (step_ok e) (ih h)
    · rename_i e hne
      exact absurd h (hne m')
end
/-- A call that returns has asked the tape no less than before. -/
theorem Calls.drawn {P : Program} {f : FuncId} {args : Array Value} {w : World} {R : Ending → World → Prop} (h : Calls P f args w R) :
    Calls P f args w (fun e w' => R e w' ∧ ∀ v, e = .returned v → w.drawn ≤ w'.drawn) := by
  intro cs
  obtain ⟨e, w', fr, hR, hC, h1, h2⟩ := h cs
  refine ⟨e, w', fr, ⟨hR, fun v hv => ?_⟩, hC, h1, h2⟩
  subst hv
  exact steps_ok (p := P) hC
/-- What keeps all old blocks, and has asked no less, is the old world with blocks and draws more. -/
theorem below_grow {w w' : World} (hb : Go.RowKit.Below w.heap.size w w') (hd : w.drawn ≤ w'.drawn) : ∃ q os', w' = Go.Sort.grow (w.drewN q) os' := by
  refine ⟨w'.drawn - w.drawn, w'.heap.extract w.heap.size w'.heap.size, ?_⟩
  obtain ⟨h1, h2, h3, h4, h5⟩ := hb
  cases w with
  | mk heap tape drawn os output =>
  cases w' with
  | mk heap' tape' drawn' os' output' =>
  simp only at h1 h2 h3 h4 h5 hd
  subst h1 h2 h3
  have e1 : drawn + (drawn' - drawn) = drawn' := by omega
  have e2 : heap' = heap ++ heap'.extract heap.size heap'.size := by
    apply Array.ext_getElem?
    intro k
    rw [Array.getElem?_append]
    split
    · exact h5 k (by assumption)
    · rw [Array.getElem?_extract]
      split
      · congr 1; omega
      · rw [Array.getElem?_eq_none]; omega
  unfold Go.Sort.grow World.drewN
  simp only [World.mk.injEq]
  exact ⟨e2, trivial, e1.symm, trivial, trivial⟩
end Go.Proofs.Tb
