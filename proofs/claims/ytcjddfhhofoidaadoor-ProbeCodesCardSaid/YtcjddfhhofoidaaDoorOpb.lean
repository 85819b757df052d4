/- Plain law: the cheapest plan is read, it costs what it says, and its ends are the classes. -/
import Derived.Test.YtcjddfhhofoidaaDoorOpa
set_option linter.unusedVariables false
set_option linter.unusedSimpArgs false
namespace Go.Proofs.Tb

/-- Lists that part l by what p says. -/
structure ClsS {α : Type} [DecidableEq α] (p : Int → α) (l : List Int) (out : List (List Int)) : Prop where
  cls : ∀ c ∈ out, ∃ i, i ∈ l ∧ c = l.filter fun x => p x = p i
  dist : out.Pairwise fun c d => ∀ x ∈ c, ∀ y ∈ d, p x ≠ p y
  cov : ∀ i ∈ l, ∃ c ∈ out, i ∈ c
section
variable {α : Type} [DecidableEq α] {p : Int → α} {l : List Int}
theorem ClsR.s {k : Nat} {out : List (List Int)} (h : ClsR p k out) : ClsS p (upL k) out := ⟨h.cls, h.dist, h.cov⟩
theorem ClsS.one {i : Int} (hi : i ∈ l) (h : ∀ x ∈ l, p x = p i) : ClsS p l [l] := by
  refine ⟨fun c hc => ⟨i, hi, ?_⟩, List.pairwise_singleton _ _, fun j hj => ⟨l, List.mem_singleton.2 rfl, hj⟩⟩
  rw [List.mem_singleton] at hc
  subst hc
  exact (List.filter_eq_self.2 fun x hx => by simpa using h x hx).symm
theorem ClsS.app {q : Int → Bool} {o1 o2 : List (List Int)} (hq : ∀ x y, p x = p y → q x = q y) (h1 : ClsS p (l.filter q) o1) (h2 : ClsS p (l.filter fun x => !q x) o2) : ClsS p l (o1 ++ o2) := by
  refine ⟨fun c hc => ?_, ?_, fun i hi => ?_⟩
  · rcases List.mem_append.1 hc with hc | hc
    · obtain ⟨i, hi, rfl⟩ := h1.cls c hc
      obtain ⟨hil, hiq⟩ := List.mem_filter.1 hi
      refine ⟨i, hil, ?_⟩
      rw [List.filter_filter]
      refine List.filter_congr fun x hx => ?_
      by_cases e : p x = p i
      · simp [e, hq x i e, hiq]
      · simp [e]
    · obtain ⟨i, hi, rfl⟩ := h2.cls c hc
      obtain ⟨hil, hiq⟩ := List.mem_filter.1 hi
      refine ⟨i, hil, ?_⟩
      rw [List.filter_filter]
      refine List.filter_congr fun x hx => ?_
      by_cases e : p x = p i
      · have h3 := hq x i e
        rw [h3]
        simp [e, hiq]
      · simp [e]
  · rw [List.pairwise_append]
    refine ⟨h1.dist, h2.dist, fun c hc d hd x hx y hy e => ?_⟩
    obtain ⟨i, hi, rfl⟩ := h1.cls c hc
    obtain ⟨j, hj, rfl⟩ := h2.cls d hd
    have hx1 := (List.mem_filter.1 (List.mem_filter.1 hx).1).2
    have hy1 := (List.mem_filter.1 (List.mem_filter.1 hy).1).2
    have h3 := hq x y e
    rw [hx1] at h3
    rw [← h3] at hy1
    cases hy1
  · by_cases hqi : q i = true
    · obtain ⟨c, hc, hic⟩ := h1.cov i (List.mem_filter.2 ⟨hi, hqi⟩)
      exact ⟨c, List.mem_append_left _ hc, hic⟩
    · obtain ⟨c, hc, hic⟩ := h2.cov i (List.mem_filter.2 ⟨hi, by simpa using hqi⟩)
      exact ⟨c, List.mem_append_right _ hc, hic⟩
theorem ClsS.self {out : List (List Int)} (h : ClsS p l out) {c : List Int} (hc : c ∈ out) : ∃ i, i ∈ c := by
  obtain ⟨i, hi, rfl⟩ := h.cls c hc
  exact ⟨i, List.mem_filter.2 ⟨hi, by simp⟩⟩
theorem ClsS.sub {o1 o2 : List (List Int)} (h1 : ClsS p l o1) (h2 : ClsS p l o2) {c : List Int} (hc : c ∈ o1) : c ∈ o2 := by
  obtain ⟨i, hi, rfl⟩ := h1.cls c hc
  obtain ⟨d, hd, hid⟩ := h2.cov i hi
  obtain ⟨j, hj, rfl⟩ := h2.cls d hd
  have e : p i = p j := by simpa using (List.mem_filter.1 hid).2
  rw [e]
  exact hd
theorem ClsS.nodup {out : List (List Int)} (h : ClsS p l out) : out.Nodup := by
  refine List.Pairwise.imp_of_mem (fun {c d} hc hd hcd e => ?_) h.dist
  subst e
  obtain ⟨i, hi⟩ := h.self hc
  exact hcd i hi i hi rfl
theorem nodup_le {β : Type} [DecidableEq β] : ∀ {a b : List β}, a.Nodup → (∀ x ∈ a, x ∈ b) → a.length ≤ b.length
  | [], _, _, _ => Nat.zero_le _
  | x :: a, b, hn, hs => by
    have hx := hs x (List.mem_cons_self ..)
    rw [List.nodup_cons] at hn
    have h1 := nodup_le (b := b.erase x) hn.2 fun y hy => by
      have hne : y ≠ x := fun e => hn.1 (e ▸ hy)
      exact (List.mem_erase_of_ne hne).2 (hs y (List.mem_cons_of_mem _ hy))
    have h2 := List.length_erase_of_mem hx
    have h3 := List.length_pos_of_mem hx
    simp only [List.length_cons]
    omega
theorem ClsS.len {o1 o2 : List (List Int)} (h1 : ClsS p l o1) (h2 : ClsS p l o2) : o1.length = o2.length :=
  Nat.le_antisymm (nodup_le h1.nodup fun _ hc => h1.sub h2 hc) (nodup_le h2.nodup fun _ hc => h2.sub h1 hc)
end
theorem pat_shB {ts : List Tt} {i : Nat} (hi : i < ts.length) {x y : Int} (h : pat ts x = pat ts y) : shB (tS ts i) x = shB (tS ts i) y := by
  have h2 := congrArg (fun l => l[i]?) h
  simp only [pat, List.getElem?_map, List.getElem?_eq_getElem hi, Option.map_some, Option.some.injEq] at h2
  have e : tS ts i = ts[i].2 := by simp [tS, List.getD, hi]
  rw [e]; exact h2
section
variable {ws : List Int} {ts : List Tt}
/-- A set that no test splits is of one pattern. -/
theorem pat_one (h : Cv ws ts) {s : Nat} (hn : ∀ i, i < (tsN ts).length → ¬ spl s ((tsN ts).getD i (0, 0))) {x y : Int} (hx : x ∈ mems ws.length s) (hy : y ∈ mems ws.length s) : pat ts x = pat ts y := by
  obtain ⟨i, rfl, _, hi⟩ := mems_mem.1 hx
  obtain ⟨j, rfl, _, hj⟩ := mems_mem.1 hy
  refine Classical.byContradiction fun hne => ?_
  obtain ⟨k, hk, hsp⟩ := pat_spl h hi hj hne
  exact hn k hk hsp
theorem rd_best (h : Cv ws ts) : ∀ s, s < 2 ^ ws.length → s ≠ 0 → ∀ (f : Nat) (way : List Int) (r : List Tt), (plL ws ts s).length ≤ f →
    ∃ es, rdF ts f (mems ws.length s) way (plL ws ts s ++ r) = some (es, r) ∧ csE ws ts es = csW ts way * pW ws s + pC ws ts s ∧ ClsS (pat ts) (mems ws.length s) (es.map Prod.fst) := by
  intro s
  induction s using Nat.strongRecOn with
  | _ s ih =>
    intro hs h0 f way r hf
    rcases bst_inv (wsN ws) (tsN ts) s with hv | ⟨i, hi, e, a1, a2, hc⟩
    · have hn : ∀ i, i < (tsN ts).length → ¬ spl s ((tsN ts).getD i (0, 0)) := fun i hi hsp => by
        have h1 := (tryL_min (c := bst (wsN ws) (tsN ts)) (W := wt (wsN ws) s) hi hsp).1
        rw [← bst_eq, hv] at h1
        exact h1 rfl
      have hpl : plL ws ts s = [(-1, mems ws.length s)] := plL_end (by unfold pT; rw [hv])
      have hsp : ¬ ts.any (fun t => spB t.2 (mems ws.length s)) = true := by
        rw [sp_any h hs]
        rintro ⟨i, hi, hsp⟩
        exact hn i hi hsp
      rw [hpl] at hf ⊢
      obtain ⟨f, rfl⟩ : ∃ g, f = g + 1 := ⟨f - 1, by simp at hf; omega⟩
      refine ⟨[(mems ws.length s, way)], ?_, ?_, ?_⟩
      · rw [List.singleton_append]
        unfold rdF
        rw [if_pos rfl, if_neg hsp, if_pos rfl]
      · rw [csE_one, pC_none h hs hsp, pW_wS h]
        simp
      · obtain ⟨j, hj, hb⟩ := bit_ex hs h0
        have hm : (j : Int) ∈ mems ws.length s := mems_mem.2 ⟨j, rfl, hj, hb⟩
        exact ClsS.one hm fun x hx => pat_one h hn hx hm
    · have hpl : plL ws ts s = ((i : Int), []) :: (plL ws ts (inn s ((tsN ts).getD i (0, 0)).2) ++ plL ws ts (outs s ((tsN ts).getD i (0, 0)).2)) := pln_test e a1 a2
      rw [tsN_len] at hi
      have hl := spl_lt (t := (tsN ts).getD i (0, 0)) ⟨a1, a2⟩
      have hspl : spB (tS ts i) (mems ws.length s) = true := (sp_one h hs hi).2 ⟨a1, a2⟩
      have hcc : pC ws ts s = tC ts i * pW ws s + pC ws ts (inn s ((tsN ts).getD i (0, 0)).2) + pC ws ts (outs s ((tsN ts).getD i (0, 0)).2) := by
        have hx := Int.toNat_of_nonneg (h.cost_nn i)
        unfold pC pW
        rw [tsN_get] at hc ⊢
        simp only at hc ⊢
        rw [hc, Int.natCast_add, Int.natCast_add, Int.natCast_mul, hx, Int.mul_comm]
      have hpw := pW_split h hi s
      rw [hpl] at hf ⊢
      obtain ⟨f, rfl⟩ : ∃ g, f = g + 1 := ⟨f - 1, by simp at hf; omega⟩
      simp only [List.length_cons, List.length_append] at hf
      obtain ⟨e1, g1, g2, g3⟩ := ih _ hl.1 (by omega) a1 f (way ++ [(i : Int)]) (plL ws ts (outs s ((tsN ts).getD i (0, 0)).2) ++ r) (by omega)
      obtain ⟨e2, k1, k2, k3⟩ := ih _ hl.2 (by omega) a2 f (way ++ [(i : Int)]) r (by omega)
      refine ⟨e1 ++ e2, ?_, ?_, ?_⟩
      · rw [List.cons_append, List.append_assoc]
        unfold rdF
        rw [if_neg (by simp only; omega), if_pos ⟨⟨by simp only; omega, by simp only; omega⟩, rfl, by simpa using hspl⟩]
        simp only [Int.toNat_natCast]
        rw [yes_mems h hi, no_mems h hi, g1]
        simp only
        rw [k1]
      · rw [csE_app, g2, k2, csW_snoc, Int.toNat_natCast, hcc, hpw]
        simp only [Int.add_mul, Int.mul_add]
        omega
      · rw [List.map_append]
        refine ClsS.app (q := fun x => shB (tS ts i) x) (fun x y hxy => pat_shB hi hxy) ?_ ?_
        · rw [yes_mems h hi]; exact g3
        · rw [no_mems h hi]; exact k3
/-- The cheapest plan for all: read, its cost, its ends. -/
theorem best_read (h : Cv ws ts) {f : Nat} (hf : (plL ws ts (allS ws)).length ≤ f) : ∃ es, rdF ts f (upL ws.length) [] (plL ws ts (allS ws)) = some (es, []) ∧ csE ws ts es = pC ws ts (allS ws) ∧
    (es.map Prod.fst).length = (clsT ws.length ts).length ∧ ∀ c ∈ es.map Prod.fst, c ∈ clsT ws.length ts := by
  have h0 : allS ws ≠ 0 := by
    have h1 := Nat.pow_le_pow_right (n := 2) (by omega) h.1.1
    unfold allS; omega
  obtain ⟨es, h1, h2, h3⟩ := rd_best h (allS ws) (allS_lt ws) h0 f [] [] hf
  rw [List.append_nil] at h1
  have e : mems ws.length (allS ws) = upL ws.length := (mems_full ws.length)
  rw [e] at h1 h3
  have h4 := (clsT_ok ws.length ts).s
  refine ⟨es, h1, ?_, h3.len h4, fun c hc => h3.sub h4 hc⟩
  rw [h2]
  simp [csW]
theorem any_read (h : Cv ws ts) {f : Nat} {plan r : List Tt} {es : List En} (he : rdF ts f (upL ws.length) [] plan = some (es, r)) : pC ws ts (allS ws) ≤ csE ws ts es := by
  have e : mems ws.length (allS ws) = upL ws.length := (mems_full ws.length)
  rw [← e] at he
  have := rd_ge h f (allS ws) [] plan r es (allS_lt ws) he
  simpa [csW] using this
end
end Go.Proofs.Tb
