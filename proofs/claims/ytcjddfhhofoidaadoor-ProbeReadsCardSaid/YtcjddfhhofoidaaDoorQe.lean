/- The library's sort of nodes, by weight and then by the first number. -/
import Derived.Test.YtcjddfhhofoidaaDoorQd
set_option linter.unusedVariables false
set_option linter.unusedSimpArgs false
namespace Go.Proofs.Tb
open Go.RowKit Go.Shelf

section
/-- The library's sort on a row that lies at g from o on: a permutation of it that rises, and where it lies. -/
theorem sort_all {P : Program} {ρ : Ren} {α : Type} [Inhabited α] (L : SlLaysF0.n6 P ρ) (k : Nat) (aE : ∀ w, (isAgg (ρ.t 24)).run P w = .ok true w) (zE : ∀ w, (Go.sizeOf (ρ.t 24)).run P w = .ok k w) (enc : α → List Value) (hk : ∀ x, (enc x).length = k)
    (h1 : ∀ x, ∀ v ∈ enc x, v.oneCell' = true) (cf : α → α → Int) (val : α → Rat) (hcf : ∀ x y, cf x y < 0 ↔ val x < val y) (f : Nat) (eg : ∀ args w, (callFunc f args).run P w = .ok (.enter f args) w)
    (g o cap : Nat) (dl : List α) (w : World) (T : TypeId) (cs : Array Value) (hb : w.heap[g]? = some (.cells cs T (0, 0))) (hH : Go.Sort.HoldsK enc k w g o dl.toArray)
    (hcmp : ∀ W, Held g cs.size T w W → ∀ x y, Calls P f #[.agg (enc x).toArray, .agg (enc y).toArray] W (Ret (fun v _ => v = .int .i64 (cf x y)) W)) (h0 : 0 < dl.length) (hsz : dl.length < 4611686018427387904) :
    Calls P (ρ.f 6) #[.slice (some ⟨g, o, none⟩) dl.length cap, .func (.func f) #[] #[]] w (fun e w' => e = .returned (.tuple #[]) ∧ Held g cs.size T w w' ∧
      ∃ dl' : List α, dl'.Perm dl ∧ (dl'.map val).Pairwise (· ≤ ·) ∧ ∀ j u, (cel enc dl')[j]? = some u → w'.cell? ⟨g, o + j, none⟩ = some u) := by
  have hlt := block_lt hb
  have h := AnyQ.slices_SortFunc L k aE zE enc hk h1 cf (swo_of hcf) f #[] g o cap dl.toArray w eg (cmpLays_of hb hcmp) hH hlt (by simpa using hsz)
  rw [List.size_toArray] at h
  refine h.mono ?_
  rintro e w' ⟨he, d', n, os, hp, hs, rfl⟩
  have hs1 : d'.size = dl.toArray.size := hp.1
  have hs2 : d'.size = dl.length := by simpa using hs1
  have hH' := holdsK_sortWorldK_c enc k w g o dl.toArray d' n os hH hlt hs1
  obtain ⟨_, hp2, hs3⟩ := sorted_val hcf (d := dl.toArray) (d' := d') (by simpa using hp) (by simpa using hs)
  refine ⟨he, sort_held enc d' os hb, d'.toList, by simpa using hp2, hs3, fun j u hj => ?_⟩
  have k0 : 0 < k := by
    rcases Nat.eq_zero_or_pos k with h | h
    · exfalso
      have : cel enc d'.toList = [] := by
        apply List.eq_nil_of_length_eq_zero
        rw [cel_len (k := k) (fun x _ => hk x), h, Nat.mul_zero]
      rw [this] at hj; cases hj
    · exact h
  have hjl : j < d'.toList.length * k := by
    rcases Nat.lt_or_ge j (d'.toList.length * k) with h | h
    · exact h
    · rw [List.getElem?_eq_none (by rw [cel_len (k := k) (fun x _ => hk x)]; exact h)] at hj; cases hj
  have hi : j / k < d'.toList.length := Nat.div_lt_of_lt_mul (by rw [Nat.mul_comm]; exact hjl)
  have hg := cel_get (enc := enc) (k := k) (d := d'.toList) (fun x _ => hk x) hi (Nat.mod_lt j k0)
  rw [Nat.div_add_mod' j k, hj] at hg
  have hi' : j / k < d'.size := by simpa using hi
  have hc := (hH'.cell (i := j / k) (c := j % k) (by omega) (Nat.mod_lt j k0)).1
  rw [Nat.add_assoc, Nat.div_add_mod' j k] at hc
  rw [hc]
  have e1 : d'[j / k]! = d'.toList[j / k] := by simp [getElem!_pos, hi']
  rw [e1, getElem!_pos (enc d'.toList[j / k]) (j % k) (by rw [hk]; exact Nat.mod_lt j k0)]
  rw [hg, List.getElem?_eq_getElem]
end
/-- The key of a node. -/
def nk (b : Tt) : Int := b.1 * 1000 + b.2.headD 0
/-- A node that may be sorted: its cells, its numbers. -/
def NsP (w : World) (x : (Int × Value) × List Int) : Prop := (∃ h t, x.2 = h :: t ∧ 0 ≤ h ∧ h < 1000) ∧ SL TIN w x.1.2 (ic x.2)
abbrev Ns (w : World) := {x : (Int × Value) × List Int // NsP w x}
def nsB {w : World} (x : Ns w) : Tt := (x.1.1.1, x.1.2)
def NokB (b : Tt) : Prop := ∃ h t, b.2 = h :: t ∧ 0 ≤ h ∧ h < 1000
theorem ns_list {w : World} : ∀ {d : List (Int × Value)} {bs : List Tt}, PrW w d bs → (∀ b ∈ bs, NokB b) → ∃ D : List (Ns w), D.map (fun x => x.1.1) = d ∧ D.map nsB = bs
  | [], [], _, _ => ⟨[], rfl, rfl⟩
  | x :: d, b :: bs, h, hb => by
    obtain ⟨D, h1, h2⟩ := ns_list h.2 (fun c hc => hb c (List.mem_cons_of_mem _ hc))
    obtain ⟨hd, tl, e, h3, h4⟩ := hb b (List.mem_cons_self ..)
    refine ⟨⟨(x, b.2), ⟨⟨hd, tl, e, h3, h4⟩, h.1.2⟩⟩ :: D, by rw [List.map_cons, h1], ?_⟩
    rw [List.map_cons, h2]
    exact congrArg (· :: bs) (Prod.ext h.1.1 rfl)
theorem ns_prw {w w' : World} (hk : ∀ v xs, SL TIN w v (ic xs) → SL TIN w' v (ic xs)) : ∀ (D : List (Ns w)), PrW w' (D.map fun x => x.1.1) (D.map nsB)
  | [] => trivial
  | x :: D => ⟨⟨rfl, hk _ _ x.2.2⟩, ns_prw hk D⟩
def cfN {w : World} (x y : Ns w) : Int := orI (cmI x.1.1.1 y.1.1.1) (cmI (x.1.2.headD 0) (y.1.2.headD 0))
theorem cfN_lt {w : World} (x y : Ns w) : cfN x y < 0 ↔ ((nk (nsB x) : Int) : Rat) < ((nk (nsB y) : Int) : Rat) := by
  rw [Rat.intCast_lt_intCast]
  obtain ⟨⟨h, t, e, h1, h2⟩, _⟩ := x.2
  obtain ⟨⟨h', t', e', h1', h2'⟩, _⟩ := y.2
  unfold cfN nk nsB orI
  simp only [e, e', List.headD_cons]
  unfold cmI
  split <;> split <;> (try split) <;> omega
set_option maxHeartbeats 1600000 in
theorem rsortN_any (base : Nat) (w : World) (g o n cap : Nat) (d : List (Int × Value)) (bs : List Tt) (h : RoO TND base w g o n cap d) (hp : PrW w d bs) (hb : ∀ b ∈ bs, NokB b) (hn : 0 < n) (hn1 : n ≤ 1000) :
    Calls Tryd.prog 70 #[.slice (some ⟨g, o, none⟩) n cap, .func (.func 71) #[] #[]] w fun e w' => e = .returned (.tuple #[]) ∧ (∃ d' bs', RoO TND base w' g o n cap d' ∧ PrW w' d' bs' ∧ d'.Perm d ∧ bs'.Perm bs ∧ (bs'.map nk).Pairwise (· ≤ ·)) ∧
      Below base w w' ∧ ∀ b, b < w.heap.size → b ≠ g → w'.heap[b]? = w.heap[b]? := by
  obtain ⟨D, hD, hDb⟩ := ns_list hp hb
  have hDl : D.length = n := by rw [← h.len, ← hD, List.length_map]
  obtain ⟨cs, hc1, hc2, hc3⟩ := h.ex
  have hD0 : 0 < D.length := by omega
  have : Inhabited (Ns w) := ⟨D[0]⟩
  have hce : cel (fun x : Ns w => prE x.1.1) D = cel prE d := by rw [← hD, cel_map]
  have hH : Go.Sort.HoldsK (fun x : Ns w => prE x.1.1) 2 w g o D.toArray := by
    intro j hj
    rw [Go.Sort.size_flatK, List.size_toArray] at hj
    have hi : j / 2 < D.length := by omega
    have hg := cel_get (enc := fun x : Ns w => prE x.1.1) (k := 2) (d := D) (fun _ _ => rfl) hi (Nat.mod_lt j (by omega))
    rw [Nat.div_add_mod' j 2, hce] at hg
    have hl2 : (prE D[j / 2].1.1).length = 2 := rfl
    have hg := hg.trans (List.getElem?_eq_getElem (show j % 2 < (prE D[j / 2].1.1).length by rw [hl2]; exact Nat.mod_lt j (by omega)))
    refine ⟨?_, Blk.free hc1 _⟩
    rw [h.cell hg, Go.Sort.get_flatK _ _ _ _ (by rw [List.size_toArray]; exact hj)]
    have e1 : D.toArray[j / 2]! = D[j / 2] := by simp [getElem!_pos, hi]
    rw [e1, getElem!_pos (prE D[j / 2].1.1) (j % 2) (by rw [hl2]; exact Nat.mod_lt j (by omega))]
    rfl
  have hsort := sort_all sortN_lay 2 Tryd.isAgg121 Tryd.sizeOf121 (fun x : Ns w => prE x.1.1) (fun _ => rfl) (fun x v hv => by
      obtain ⟨A, n', c', hx, _⟩ := x.2.2
      unfold prE at hv
      rw [hx] at hv
      exact pr_one v hv) cfN (fun x => ((nk (nsB x) : Int) : Rat)) cfN_lt 71 (enters_of Tryd.func71 (by kernel_rfl) rfl) g o cap D w TND cs hc1 hH (fun W hW x y => by
      obtain ⟨⟨hx, tx, ex, _, _⟩, sx⟩ := x.2
      obtain ⟨⟨hy, ty, ey, _, _⟩, sy⟩ := y.2
      obtain ⟨A, c', vx, ix⟩ := (sx.held hW (by decide)).il
      obtain ⟨A', c'', vy, iy⟩ := (sy.held hW (by decide)).il
      have ec : cfN x y = orI (cmI x.1.1.1 y.1.1.1) (cmI hx hy) := by unfold cfN; rw [ex, ey]; rfl
      rw [ec]
      show Calls Tryd.prog 71 #[.agg #[.int .i64 x.1.1.1, x.1.1.2], .agg #[.int .i64 y.1.1.1, y.1.1.2]] W _
      rw [vx, vy]
      rw [ex] at ix ⊢
      rw [ey] at iy ⊢
      exact rcmp_any x.1.1.1 y.1.1.1 hx hy tx ty A A' _ c' _ c'' W ix iy) hD0 (by omega)
  rw [hDl] at hsort
  refine hsort.mono ?_
  rintro e w' ⟨he, hh, D', hpD, hpw, hcell⟩
  have hkeep : ∀ b, b < w.heap.size → b ≠ g → w'.heap[b]? = w.heap[b]? := fun b hb hne => hh.g.block b hb (fun e => hne (by injection e))
  obtain ⟨cs', hb', hs'⟩ := hh.r
  have hce' : cel prE (D'.map fun x => x.1.1) = cel (fun x : Ns w => prE x.1.1) D' := cel_map _ _ _
  refine ⟨he, ⟨D'.map fun x => x.1.1, D'.map nsB, ⟨h.base_, by rw [List.length_map, hpD.length_eq, hDl], h.le, h.capM, cs', hb', by rw [hs']; exact hc2, fun j u hj => ?_⟩,
    ns_prw (fun v xs hs => hs.held hh (by decide)) D', by rw [← hD]; exact hpD.map _, by rw [← hDb]; exact hpD.map _, ?_⟩, (Below.refl base w).grown hh.g (Nat.le_trans h.base_ (Nat.le_of_lt h.lt)) (fun k e => by injection e with e; subst e; exact h.base_), hkeep⟩
  · rw [hce'] at hj
    have h1 := hcell j u hj
    rw [cell_of_row w' g (o + j) cs' TND (0, 0) hb'] at h1
    exact h1
  · rw [List.map_map]
    rw [List.pairwise_map] at hpw ⊢
    refine hpw.imp (fun h => ?_)
    exact Rat.intCast_le_intCast.1 h
end Go.Proofs.Tb
