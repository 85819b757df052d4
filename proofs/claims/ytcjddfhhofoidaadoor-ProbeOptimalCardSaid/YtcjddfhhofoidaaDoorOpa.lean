/- Plain law: plans that are read; none costs less than the cheapest; its ends are the classes. -/
import Derived.Test.YtcjddfhhofoidaaDoorMob
import Derived.Test.YtcjddfhhofoidaaDoorPj
set_option linter.unusedVariables false
set_option linter.unusedSimpArgs false
namespace Go.Proofs.Tb

/-- An end: its faults, and the tests on the way. -/
abbrev En := List Int × List Int
/-- A plan for a set, read from the front: its ends, and what is left. -/
def rdF (ts : List Tt) : Nat → List Int → List Int → List Tt → Option (List En × List Tt)
  | 0, _, _, _ => none
  | _ + 1, _, _, [] => none
  | f + 1, set, way, b :: rest =>
    if b.1 = -1 then
      if ts.any (fun t => spB t.2 set) = true then none else if b.2 = set then some ([(set, way)], rest) else none
    else if (0 ≤ b.1 ∧ b.1 < (ts.length : Int)) ∧ b.2 = [] ∧ spB (tS ts b.1.toNat) set = true then
      match rdF ts f (set.filter fun x => shB (tS ts b.1.toNat) x) (way ++ [b.1]) rest with
      | none => none
      | some (e1, r1) => match rdF ts f (set.filter fun x => !shB (tS ts b.1.toNat) x) (way ++ [b.1]) r1 with
        | none => none
        | some (e2, r2) => some (e1 ++ e2, r2)
    else none
def wS (ws l : List Int) : Int := (l.map fun x => ws.getD x.toNat 0).sum
def csW (ts : List Tt) (way : List Int) : Int := (way.map fun k => tC ts k.toNat).sum
def csE (ws : List Int) (ts : List Tt) (es : List En) : Int := (es.map fun e => csW ts e.2 * wS ws e.1).sum
theorem csW_snoc (ts : List Tt) (way : List Int) (k : Int) : csW ts (way ++ [k]) = csW ts way + tC ts k.toNat := by unfold csW; rw [List.map_append, List.sum_append]; simp
theorem csE_app (ws : List Int) (ts : List Tt) (a b : List En) : csE ws ts (a ++ b) = csE ws ts a + csE ws ts b := by unfold csE; rw [List.map_append, List.sum_append]
theorem csE_one (ws : List Int) (ts : List Tt) (e : En) : csE ws ts [e] = csW ts e.2 * wS ws e.1 := by simp [csE]
section
variable {ws : List Int} {ts : List Tt}
theorem pW_wS (h : Cv ws ts) (s : Nat) : pW ws s = wS ws (mems ws.length s) := by
  unfold pW wt wS
  rw [wsN_len]
  exact wtK_sum ws (fun j => (okF_all h.2.1 j).1) s ws.length
theorem wS_split (p : Int → Bool) (l : List Int) : wS ws l = wS ws (l.filter p) + wS ws (l.filter fun x => !p x) := by
  induction l with
  | nil => rfl
  | cons x l ih =>
    unfold wS at *
    rw [List.map_cons, List.sum_cons, ih, List.filter_cons, List.filter_cons]
    cases p x <;> simp <;> omega
theorem pW_split (h : Cv ws ts) {i : Nat} (hi : i < ts.length) (s : Nat) : pW ws s = pW ws (inn s ((tsN ts).getD i (0, 0)).2) + pW ws (outs s ((tsN ts).getD i (0, 0)).2) := by
  rw [pW_wS h, pW_wS h, pW_wS h, ← yes_mems h hi, ← no_mems h hi]
  exact wS_split _ _
theorem sp_any (h : Cv ws ts) {s : Nat} (hs : s < 2 ^ ws.length) : ts.any (fun t => spB t.2 (mems ws.length s)) = true ↔ ∃ i, i < (tsN ts).length ∧ spl s ((tsN ts).getD i (0, 0)) := by
  rw [List.any_eq_true]
  constructor
  · rintro ⟨t, ht, hsp⟩
    obtain ⟨i, hi, rfl⟩ := List.getElem_of_mem ht
    have e : tS ts i = ts[i].2 := by simp [tS, List.getD, hi]
    rw [← e, spB_mems h hi hs] at hsp
    exact ⟨i, by rw [tsN_len]; exact hi, fun h0 => hsp (Or.inl h0), fun h0 => hsp (Or.inr h0)⟩
  · rintro ⟨i, hi, h1, h2⟩
    rw [tsN_len] at hi
    refine ⟨ts[i], List.getElem_mem hi, ?_⟩
    have e : tS ts i = ts[i].2 := by simp [tS, List.getD, hi]
    rw [← e, spB_mems h hi hs]
    exact fun h0 => h0.elim h1 h2
theorem sp_one (h : Cv ws ts) {s i : Nat} (hs : s < 2 ^ ws.length) (hi : i < ts.length) : spB (tS ts i) (mems ws.length s) = true ↔ spl s ((tsN ts).getD i (0, 0)) := by
  rw [spB_mems h hi hs]
  exact ⟨fun h0 => ⟨fun h1 => h0 (Or.inl h1), fun h1 => h0 (Or.inr h1)⟩, fun h0 h1 => h1.elim h0.1 h0.2⟩
theorem pC_none (h : Cv ws ts) {s : Nat} (hs : s < 2 ^ ws.length) (hn : ¬ ts.any (fun t => spB t.2 (mems ws.length s)) = true) : pC ws ts s = 0 := by
  rw [sp_any h hs] at hn
  unfold pC
  rw [bst_none fun i hi hsp => hn ⟨i, hi, hsp⟩]
  rfl
theorem pC_min (h : Cv ws ts) {s i : Nat} (hi : i < ts.length) (hsp : spl s ((tsN ts).getD i (0, 0))) :
    pC ws ts s ≤ tC ts i * pW ws s + pC ws ts (inn s ((tsN ts).getD i (0, 0)).2) + pC ws ts (outs s ((tsN ts).getD i (0, 0)).2) := by
  have h1 := bst_min (ws := wsN ws) (by rw [tsN_len]; exact hi) hsp
  have hx := Int.toNat_of_nonneg (h.cost_nn i)
  unfold pC pW
  rw [tsN_get] at h1 ⊢
  simp only at h1 ⊢
  rw [Int.mul_comm, ← hx]
  rw [← Int.natCast_mul, ← Int.natCast_add, ← Int.natCast_add]
  exact Int.ofNat_le.2 h1
/-- No plan costs less than the cheapest. -/
theorem rd_ge (h : Cv ws ts) : ∀ (f s : Nat) (way : List Int) (plan r : List Tt) (es : List En), s < 2 ^ ws.length → rdF ts f (mems ws.length s) way plan = some (es, r) → csW ts way * pW ws s + pC ws ts s ≤ csE ws ts es
  | 0, _, _, _, _, _, _, e => by simp [rdF] at e
  | _ + 1, _, _, [], _, _, _, e => by simp [rdF] at e
  | f + 1, s, way, b :: rest, r, es, hs, e => by
    unfold rdF at e
    by_cases hb : b.1 = -1
    · rw [if_pos hb] at e
      by_cases hsp : ts.any (fun t => spB t.2 (mems ws.length s)) = true
      · rw [if_pos hsp] at e; cases e
      · rw [if_neg hsp] at e
        by_cases hbs : b.2 = mems ws.length s
        · rw [if_pos hbs] at e
          injection e with e
          injection e with e1 e2
          subst e1
          rw [csE_one, pC_none h hs hsp, pW_wS h]
          simp
        · rw [if_neg hbs] at e; cases e
    · rw [if_neg hb] at e
      by_cases hc : (0 ≤ b.1 ∧ b.1 < (ts.length : Int)) ∧ b.2 = [] ∧ spB (tS ts b.1.toNat) (mems ws.length s) = true
      · rw [if_pos hc] at e
        obtain ⟨⟨hb0, hb1⟩, _, hsp⟩ := hc
        obtain ⟨i, hi⟩ : ∃ i, b.1.toNat = i := ⟨_, rfl⟩
        rw [hi] at hsp e
        have hit : i < ts.length := by omega
        have hbi : b.1 = (i : Int) := by omega
        have hspl := (sp_one h hs hit).1 hsp
        rw [yes_mems h hit, no_mems h hit] at e
        have hin : inn s ((tsN ts).getD i (0, 0)).2 < 2 ^ ws.length := Nat.lt_of_le_of_lt (inn_le _ _) hs
        have hou : outs s ((tsN ts).getD i (0, 0)).2 < 2 ^ ws.length := Nat.lt_of_le_of_lt (outs_le _ _) hs
        cases h1 : rdF ts f (mems ws.length (inn s ((tsN ts).getD i (0, 0)).2)) (way ++ [b.1]) rest with
        | none => rw [h1] at e; cases e
        | some x1 =>
          obtain ⟨e1, r1⟩ := x1
          rw [h1] at e
          simp only at e
          cases h2 : rdF ts f (mems ws.length (outs s ((tsN ts).getD i (0, 0)).2)) (way ++ [b.1]) r1 with
          | none => rw [h2] at e; cases e
          | some x2 =>
            obtain ⟨e2, r2⟩ := x2
            rw [h2] at e
            simp only at e
            injection e with e
            injection e with e3 e4
            subst e3
            have g1 := rd_ge h f _ _ _ _ _ hin h1
            have g2 := rd_ge h f _ _ _ _ _ hou h2
            have g3 := pC_min h hit hspl
            have g4 := pW_split h hit s
            rw [csW_snoc, hi] at g1 g2
            rw [csE_app]
            rw [g4] at g3 ⊢
            rw [Int.mul_add] at g3 ⊢
            rw [Int.add_mul] at g1 g2
            omega
      · rw [if_neg hc] at e; cases e
end
end Go.Proofs.Tb
