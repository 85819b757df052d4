/- How a law's statement follows from the contract of its Go function, for this seat: the table of math/bits out of what the card ties; faults, tests, lists and cases opened. -/
import Derived.Test.YtcjddfhhofoidaaDoorRows
import Derived.Test.YtcjddfhhofoidaaDoorRb
import Derived.ProofKit
import Derived.OpenShut
import Derived.Carry
import Derived.Below
import Derived.ChangeSame
import Derived.Deep.Slices
import Derived.Deep.Fields
import Derived.Lib.SmallJoins
import Derived.LaidMore
import Derived.Stop.Joined
set_option linter.unusedVariables false
set_option linter.unusedSimpArgs false
namespace Go.Proofs.Tb
open Go.ChangeShapes Go.WideShapes Go.ChangeAt Go.WideElems Go.RowKit Go.Deep Go.Joins Go.Proofs.YtcjddfhhofoidaaDoor

theorem ownk : ownKnob Tryd.prog.godebug = none := by kernel_rfl
theorem laidOut : laidOutB Tryd.prog = true := by kernel_rfl
section
variable {H : Type} {enc : TypeId × Value → H} {P : Program} {w : World} {base : Nat} {spare : Nat → Bool} {held : Bool}
theorem open_slice_fields {t e : TypeId} {fs : Array Field} {fuel : Nat} {cs : List Value} {x : DataW H × List MemPlace} (ht : P.underlying t = some (.slice e)) (he : P.underlying e = some (.struct fs))
    (hone : oneCellFields P fs = true) (hC : P.cellsOf e = fs.size) (h : DataW.trod enc P w base spare held fuel t cs = some x) :
    cs = [.slice none 0 0] ∨
    ∃ (a : Addr) (len cap : Nat), cs = [.slice (some a) len cap] ∧ len ≤ cap ∧ cap ≤ maxLen ∧
      ∀ i, i < len → ∀ (j : Nat) (f : Field), fs[j]? = some f → ∃ (v : Value) (y : DataW H × List MemPlace) (n : Nat), w.cell? (a.add (i * fs.size + j)) = some v ∧ DataW.trod enc P w base spare held n f.type [v] = some y := by
  rcases open_slice ht h with h0 | ⟨a, len, cap, m, n, D, Pl, hcs, hb, hl, hm, hmm, hx, hi⟩
  · exact .inl h0.1
  · refine .inr ⟨a, len, cap, hcs, hl, hm, fun i hil j f hj => ?_⟩
    have him : i < m := by rw [hmm]; split <;> omega
    obtain ⟨cs', hc, ht'⟩ := hi i him
    rw [hC] at hc
    obtain ⟨ys, n', hn', hy, hlen, hyl, hf⟩ := DataW.trod_struct he ht'
    obtain ⟨_, hcl, hat⟩ := World.cells?_some hc
    obtain ⟨ho, hk⟩ := hone_of hone j f hj
    have hjl : j < fs.size := (Array.getElem?_eq_some_iff.1 hj).1
    have hcell := hat j hjl
    have hv : cs'[j]? = some (cs'[j]'(by omega)) := List.getElem?_eq_getElem (by omega)
    have h1 := hf j f hj
    rw [ho, hk] at h1
    have hone' : (cs'.drop j).take 1 = [cs'[j]'(by omega)] := by
      rw [List.drop_eq_getElem_cons (by omega)]
      rfl
    rw [hone'] at h1
    have hys : ys[j]? = some (ys[j]'(by omega)) := List.getElem?_eq_getElem (by omega)
    refine ⟨_, _, _, ?_, h1.trans hys⟩
    rw [← Go.Deep.add_add, hcell, hv]
theorem trodAll_stays (hl : laidOutB P = true) {W W' : World} (hb : Below W.heap.size W W') {sp : Nat → Bool} : ∀ {ts : List TypeId} {vs : List Value} {ds : List (DataW H)} {ps : List MemPlace},
    (∀ t ∈ ts, P.readableRec t = true ∧ t < P.types.size) → DataW.TrodAll enc P W 0 (fun _ => true) true ts vs ds ps → (∀ x ∈ ps, x.block < W.heap.size) → (∀ x ∈ ps, sp x.block = true) → DataW.TrodAll enc P W' 0 sp true ts vs ds ps
  | [], [], [], _, _, h, _, _ => h
  | t :: ts, _ :: _, _ :: _, _, ht, ⟨p, q, h1, h2, e⟩, hlt, hsp =>
    ⟨p, q, WideElems.Trod_stays hl (ht t (List.mem_cons.2 (Or.inl rfl))).1 (ht t (List.mem_cons.2 (Or.inl rfl))).2 h1 (fun x hx => hb.same (hlt x (by rw [e]; exact List.mem_append_left _ hx))) (fun x hx => hsp x (by rw [e]; exact List.mem_append_left _ hx)),
      trodAll_stays hl hb (fun t' ht' => ht t' (List.mem_cons.2 (Or.inr ht'))) h2 (fun x hx => hlt x (by rw [e]; exact List.mem_append_right _ hx)) (fun x hx => hsp x (by rw [e]; exact List.mem_append_right _ hx)), e⟩
theorem post_of_below {f : Func} {s : ChangeSpec} {apart fresh handsOn again : Bool} {W W' : World} {args : Array Value} {v : Value} {ds gs : List (DataW H)} {before pa pv : List MemPlace}
    (hW : DataW.Whole enc P f.params.toList s.vars apart W args.toList ds gs before)
    (hres : ∀ (b : Nat) (sp : Nat → Bool) (hd : Bool), DataW.TrodAll enc P W' b sp hd f.resultTypes.toList (v.resultList f.resultTypes.size) (s.fn H (ds ++ gs)).results [])
    (hargs : ∀ sp : Nat → Bool, (∀ p ∈ before, sp p.block = true) → DataW.TrodAll enc P W' 0 sp true f.params.toList args.toList (s.fn H (ds ++ gs)).args pa)
    (hvars : ∀ sp : Nat → Bool, (∀ p ∈ before, sp p.block = true) → DataW.TrodVars enc P W' sp s.vars (s.fn H (ds ++ gs)).vars pv)
    (hps : before = pa ++ pv) (hb : Below W.heap.size W W')
    (hok : ∀ (j : Nat) (t : TypeId) (r : Value), f.resultTypes[j]? = some t → (v.resultList f.resultTypes.size)[j]? = some r → Value.okWide P W' .any 0 t r) :
    s.post enc P f apart fresh handsOn again W args v W' := by
  have hlt : ∀ p ∈ before, p.block < W.heap.size := fun p hp => hW.lt p hp
  have hold : ∀ p ∈ before, (fun b => decide (b < W.heap.size)) p.block = true := fun p hp => by simpa using hlt p hp
  refine ⟨ds, gs, before, [], pa, pv, hW, hres _ _ _, hargs _ hold, hvars _ hold, World.keptBut_mono (fun p hp => ⟨hp, ?_⟩) (hb.frame (· ∈ before)), fun _ => ?_⟩
  · rw [hps, List.mem_append] at hp
    exact Or.inr hp
  · obtain ⟨_, _, _, _, _, hz, hn⟩ := hW
    refine ⟨hok, _, _, ([] ++ pa) ++ pv, ⟨[] ++ pa, pv, trodAll_append (hargs _ (fun _ _ => rfl)) (hres _ _ _), hvars _ (fun _ _ => rfl), rfl, ?_, ?_⟩, ?_⟩
    · intro b off hp
      have hin : MemPlace.cell b off ∈ before := by rw [hps]; simpa using hp
      rw [hb.frozen (hlt _ hin)]
      exact hz b off hin
    · intro ha
      have := hn ha
      rw [hps] at this
      simpa using this
    · intro p hp _
      rw [hps]
      simpa using hp
end
set_option maxRecDepth 100000 in
/-- A law's row behind the call: true, and all arguments as they were. -/
theorem law_post {H : Type} {enc : TypeId × Value → H} {f : Func} {s : ChangeSpec} {W W' : World} {args : Array Value} {ds gs : List (DataW H)} {before : List MemPlace}
    (hW : DataW.Whole enc Tryd.prog f.params.toList s.vars false W args.toList ds gs before) (hr : f.resultTypes = #[4]) (hv : s.vars = [])
    (hts : (f.params.toList.all fun t => Tryd.prog.readableRec t && decide (t < Tryd.prog.types.size)) = true)
    (hfn : (s.fn H (ds ++ gs)).results = [.lit (.bool true)] ∧ (s.fn H (ds ++ gs)).args = ds ∧ (s.fn H (ds ++ gs)).vars = [])
    (hb : Below W.heap.size W W') : s.post enc Tryd.prog f false true false false W args (.bool true) W' := by
  have hW' := hW
  obtain ⟨p, q, hA, hV, hpq, _, _⟩ := hW
  rw [hv] at hV
  obtain ⟨hg, hq⟩ := trodVars_none hV
  have hlt : ∀ x ∈ p, x.block < W.heap.size := fun x hx => hW'.lt x (by rw [hpq]; exact List.mem_append_left _ hx)
  refine post_of_below (pa := p) (pv := q) hW' ?_ ?_ ?_ hpq hb ?_
  · intro b sp hd
    rw [hfn.1, hr]
    exact trodAll_mk1 (shut_bool Tryd.underlying4 true)
  · intro sp hsp
    rw [hfn.2.1]
    have hts' : ∀ t ∈ f.params.toList, Tryd.prog.readableRec t = true ∧ t < Tryd.prog.types.size := fun t ht => by
      have := List.all_eq_true.1 hts t ht
      simpa using this
    exact trodAll_stays laidOut hb hts' hA hlt (fun x hx => hsp x (by rw [hpq]; exact List.mem_append_left _ hx))
  · intro sp hsp
    rw [hfn.2.2, hv, hq]
    rfl
  · exact ok_one hr rfl (okWide_bool_mk Tryd.underlying4 true)
theorem il_of {W : World} {a : Addr} {n c : Nat} (f : Nat → Int) (hc : ∀ i, i < n → W.cell? (a.add i) = some (.int .i64 (f i))) (hl : n ≤ c) (hm : c ≤ maxLen) : Il W (some a) n c ((List.range n).map f) := by
  have hget : ∀ j, j < n → ((List.range n).map f).getD j 0 = f j := fun j hj => by simp [List.getD, hj]
  refine ⟨by simp, hl, by simpa [maxLen] using hm, fun h0 => ?_⟩
  obtain ⟨bb, off, spot⟩ := a
  have hs0 := hc 0 h0
  have hspot : spot = none := by simpa [Addr.add] using World.cell?_spot hs0
  subst hspot
  have hadd : ∀ j, (⟨bb, off, none⟩ : Addr).add j = ⟨bb, off + j, none⟩ := fun j => by simp only [Addr.add]; split <;> simp_all
  refine ⟨bb, off, rfl, fun j hj => ?_⟩
  have h1 := hc j hj
  rw [hadd] at h1
  rw [hget j hj]
  exact h1
theorem il_none (W : World) : Il W none 0 0 [] := ⟨rfl, Nat.le_refl _, by omega, fun h => absurd h (by omega)⟩
/-- A list of numbers. -/
theorem open_is {H : Type} {enc : TypeId × Value → H} {W : World} {base fuel : Nat} {spare : Nat → Bool} {held : Bool} {cs : List Value} {x : DataW H × List MemPlace}
    (h : DataW.trod enc Tryd.prog W base spare held fuel TIS cs = some x) : ∃ (A : Option Addr) (n c : Nat) (xs : List Int), cs = [.slice A n c] ∧ Il W A n c xs := by
  rcases open_slice1 Tryd.underlying37 (by kernel_rfl) h with h0 | ⟨a, len, cap, m, n, V, D, Pl, hcs, hb, hl, hm, hmm, hx, hi⟩
  · exact ⟨none, 0, 0, [], h0.1, il_none _⟩
  · have hx : ∀ i, ∃ z : Int, i < len → W.cell? (a.add i) = some (.int .i64 z) := by
      intro i
      by_cases hin : i < len
      · obtain ⟨h1, h2⟩ := hi i (by rw [hmm]; split <;> omega)
        obtain ⟨z, hz, _⟩ := DataW.trod_int Tryd.underlying3 h2
        have e0 : V i = .int .i64 z := by simpa using hz
        rw [e0] at h1
        exact ⟨z, fun _ => h1⟩
      · exact ⟨0, fun h => absurd h hin⟩
    obtain ⟨f, hf⟩ := Classical.axiomOfChoice hx
    exact ⟨some a, len, cap, _, hcs, il_of f hf hl hm⟩
/-- Faults. -/
theorem open_fs {H : Type} {enc : TypeId × Value → H} {W : World} {base fuel : Nat} {spare : Nat → Bool} {held : Bool} {cs : List Value} {x : DataW H × List MemPlace}
    (h : DataW.trod enc Tryd.prog W base spare held fuel TFS cs = some x) : ∃ (A : Option Addr) (n c : Nat) (xs : List Int), cs = [.slice A n c] ∧ Il W A n c xs := by
  rcases open_slice_fields Tryd.underlying22 Tryd.underlying58 (by kernel_rfl) (by kernel_rfl) h with h0 | ⟨a, len, cap, hcs, hl, hm, hi⟩
  · exact ⟨none, 0, 0, [], h0, il_none _⟩
  · have hx : ∀ i, ∃ z : Int, i < len → W.cell? (a.add i) = some (.int .i64 z) := by
      intro i
      by_cases hin : i < len
      · obtain ⟨v, y, n, h1, h2⟩ := hi i hin 0 _ rfl
        obtain ⟨z, hz, _⟩ := DataW.trod_int Tryd.underlying3 h2
        have e0 : v = .int .i64 z := by simpa using hz
        subst e0
        exact ⟨z, fun _ => by simpa using h1⟩
      · exact ⟨0, fun h => absurd h hin⟩
    obtain ⟨f, hf⟩ := Classical.axiomOfChoice hx
    exact ⟨some a, len, cap, _, hcs, il_of f hf hl hm⟩
/-- Tests. -/
theorem open_ts {H : Type} {enc : TypeId × Value → H} {W : World} {base fuel : Nat} {spare : Nat → Bool} {held : Bool} {cs : List Value} {x : DataW H × List MemPlace}
    (h : DataW.trod enc Tryd.prog W base spare held fuel TTS cs = some x) : ∃ (A : Option Addr) (n c : Nat) (ts : List Tt), cs = [.slice A n c] ∧ Ts W A n c ts := by
  rcases open_slice_fields Tryd.underlying23 Tryd.underlying54 (by kernel_rfl) (by kernel_rfl) h with h0 | ⟨a, len, cap, hcs, hl, hm, hi⟩
  · exact ⟨none, 0, 0, [], h0, ⟨rfl, Nat.le_refl _, by omega, fun h => absurd h (by omega)⟩⟩
  · have hx : ∀ i, ∃ z : Tt, i < len → (W.cell? (a.add (i * 2)) = some (.int .i64 z.1) ∧ ∃ A' n' c', W.cell? (a.add (i * 2 + 1)) = some (.slice A' n' c') ∧ Il W A' n' c' z.2) := by
      intro i
      by_cases hin : i < len
      · obtain ⟨v, y, n, h1, h2⟩ := hi i hin 0 _ rfl
        obtain ⟨v', y', n', h3, h4⟩ := hi i hin 1 _ rfl
        obtain ⟨z, hz, _⟩ := DataW.trod_int Tryd.underlying3 h2
        have e0 : v = .int .i64 z := by simpa using hz
        subst e0
        obtain ⟨A', n'', c', xs, e1, il⟩ := open_is h4
        have e1 : v' = .slice A' n'' c' := by simpa using e1
        subst e1
        exact ⟨(z, xs), fun _ => ⟨h1, _, _, _, h3, il⟩⟩
      · exact ⟨(0, []), fun h => absurd h hin⟩
    obtain ⟨f, hf⟩ := Classical.axiomOfChoice hx
    have hget : ∀ j, j < len → ((List.range len).map f).getD j (0, []) = f j := fun j hj => by simp [List.getD, hj]
    refine ⟨some a, len, cap, (List.range len).map f, hcs, ⟨by simp, hl, by simpa [maxLen] using hm, fun h0 => ?_⟩⟩
    obtain ⟨bb, off, spot⟩ := a
    have hs0 := (hf 0 h0).1
    rw [Nat.zero_mul] at hs0
    have hspot : spot = none := by simpa [Addr.add] using World.cell?_spot hs0
    subst hspot
    have hadd : ∀ j, (⟨bb, off, none⟩ : Addr).add j = ⟨bb, off + j, none⟩ := fun j => by simp only [Addr.add]; split <;> simp_all
    refine ⟨bb, off, rfl, fun j hj => ?_⟩
    have h1 := hf j hj
    rw [hadd, hadd] at h1
    unfold tC tS
    rw [hget j hj]
    exact h1
set_option maxRecDepth 100000 in
/-- A case. -/
theorem open_case {H : Type} {enc : TypeId × Value → H} {W : World} {b0 base : Nat} {r : Reach} {spare : Nat → Bool} {held : Bool} {v : Value} {d : DataW H} {p : List MemPlace}
    (hv : Value.okWide Tryd.prog W r b0 TCA v) (h : DataW.Trod enc Tryd.prog W base spare held TCA v d p) :
    ∃ (A A' : Option Addr) (n c m d' : Nat) (ws : List Int) (ts : List Tt), v = .agg #[.slice A n c, .slice A' m d'] ∧ Il W A n c ws ∧ Ts W A' m d' ts := by
  obtain ⟨v0, v1, y0, y1, n, rfl, _, _, h0, h1⟩ := open_agg2 Tryd.underlying25 (by kernel_rfl) (by kernel_rfl) hv h
  obtain ⟨A, k, c, ws, e0, il⟩ := open_fs h0
  obtain ⟨A', m, d', ts, e1, tl⟩ := open_ts h1
  have e0 : v0 = .slice A k c := by simpa using e0
  have e1 : v1 = .slice A' m d' := by simpa using e1
  subst e0 e1
  exact ⟨_, _, _, _, _, _, _, _, rfl, il, tl⟩
/-- What the card ties. -/
abbrev lad2 : List (String × DataW Unit) := [("math/bits.deBruijn32tab", Rows.laid_math_bits_deBruijn32tab), ("math/bits.deBruijn64tab", Rows.laid_math_bits_deBruijn64tab)]
theorem gTab0 : Tryd.prog.globalNamed "math/bits.deBruijn32tab" = some 0 := by kernel_rfl
theorem gTab : Tryd.prog.globalNamed "math/bits.deBruijn64tab" = some 1 := by kernel_rfl
theorem tTab : (Tryd.prog.globals[1]?).map (·.type) = some 156 := by kernel_rfl
theorem door_met (os : Os) (args : Array Value) : laidMetH Tryd.prog lad2 ((World.doorLaid Tryd.prog 400 os).forCall (fun _ _ => 0) ⟨#[], args, []⟩).memory :=
  laidMetH_of_parts3 (fuel := 8) (laidMet_of_run' 8 (by kernel_rfl) (by kernel_rfl)) (by kernel_rfl) (by kernel_rfl)
theorem dbt_lit {H : Type} : Rows.laid_math_bits_deBruijn64tab (H := H) = .agg ((List.range 64).map fun j => .lit (.int .u8 (dbt.getD j 0 : Nat))) := by rfl
set_option maxRecDepth 100000 in
theorem of_laid {W : World} (h : laidMetH Tryd.prog lad2 W) : Tab W := by
  rw [MakeChecks.laidMetH_plain _ _ _ (by kernel_rfl)] at h
  obtain ⟨ps, ⟨g0, t0, cs0, f0, p0, q0, hg0, ht0, hv0, hd0, ⟨g1, t1, cs1, f1, p1, q1, hg1, ht1, hv1, hd1, _, _⟩, _⟩, _, _⟩ := h
  obtain rfl := Option.some.inj (gTab.symm.trans hg1)
  obtain rfl := Option.some.inj (tTab.symm.trans ht1)
  obtain ⟨xs, m1, rfl, hx1, hlen, hn3, hel⟩ := DataW.trod_array Tryd.underlying156 hd1
  rw [dbt_lit] at hx1
  have c5 : Tryd.prog.cellsOf 5 = 1 := by kernel_rfl
  have hcell : ∀ j, j < 64 → W.cell? ⟨1, j, none⟩ = some (.int .u8 (dbt.getD j 0 : Nat)) := by
    intro j hj
    have h1 := hel j hj
    rw [c5, Nat.mul_one] at h1
    have hxj : xs[j]? = some (xs[j]'(by omega)) := List.getElem?_eq_getElem (by omega)
    rw [hxj] at h1
    obtain ⟨k, e1, e2, _⟩ := DataW.trod_int Tryd.underlying5 h1
    have e3 : ((List.range 64).map fun j => (DataW.lit (.int .u8 (dbt.getD j 0 : Nat)) : DataW Unit)) = xs.map (·.1) := by
      have := (Prod.ext_iff.1 hx1).1
      exact DataW.agg.inj this
    have e4 := congrArg (fun l => l[j]?) e3
    simp only [List.getElem?_map, hxj, List.getElem?_range hj, Option.map_some, e2] at e4
    have e5 : (dbt.getD j 0 : Int) = k := by
      have := Option.some.inj e4
      injection this with this
      injection this
    have hlj : j < cs1.toList.length := by rw [hlen]; exact Nat.lt_of_lt_of_eq hj (by kernel_rfl)
    rw [List.drop_eq_getElem_cons hlj, List.take_succ_cons] at e1
    have e6 : cs1.toList[j] = .int .u8 k := (List.cons.inj e1).1
    rw [World.var?_cell hg1 hv1 j, e5, ← e6, Array.getElem_toList]
    exact Array.getElem?_eq_getElem _
  exact ⟨World.block_lt_of_cell? W _ (hcell 0 (by omega)), hcell⟩
end Go.Proofs.Tb
