/- Contracts of first, without, find. -/
import Derived.Test.YtfljnfdeboibhaaSte
set_option linter.unusedVariables false
set_option linter.unusedSimpArgs false
namespace Go.Proofs.Tb
open Go.RowKit
attribute [local go_sem] cell_set_same binOp_string_gtr'

open Classical in
/-- How many nodes a pointer leads to. -/
noncomputable def szP (w : World) (p : Value) : Nat := if h : ∃ t : MT, (∃ B Q, TrW w B Q t) ∧ p = .pointer t.ad then (Classical.choose h).er.size else 0
theorem szP_eq {w : World} {B : Nat → Nat} {Q : Nat → Prop} {t : MT} (h : TrW w B Q t) : szP w (.pointer t.ad) = t.er.size := by
  unfold szP
  have hx : ∃ t' : MT, (∃ B Q, TrW w B Q t') ∧ Value.pointer t.ad = .pointer t'.ad := ⟨t, ⟨B, Q, h⟩, rfl⟩
  rw [dif_pos hx]
  obtain ⟨⟨B', Q', h1⟩, h2⟩ := Classical.choose_spec hx
  rw [← h.inj h1 (by injection h2)]
set_option maxHeartbeats 6400000 in
set_option maxRecDepth 100000 in
theorem rfirst_any (B : Nat → Nat) (Q : Nat → Prop) (g : Nat) (k v : Str) (l r : MT) (w : World) (h : TrW w B Q (.node g k v l r)) :
    Calls Try.prog 80 #[.pointer (some ⟨g, 0, none⟩)] w (Ret (fun z w' => ∃ g' k' v' l' r', z = .pointer (some ⟨g', 0, none⟩) ∧ TrW w' B Q (.node g' k' v' l' r') ∧ (MT.node g k v l r).er.first = (k', v')) w) := by
  have HH := Lib.hid h
  clear h
  go_enter Try.func80, Try.ntmps80
  go_wp2
  go_loopw [0] (fun p wr => ∃ g' k' v' l' r', p = .pointer (some ⟨g', 0, none⟩) ∧ TrW wr B Q (.node g' k' v' l' r') ∧ (MT.node g k v l r).er.first = (MT.node g' k' v' l' r').er.first ∧ Ext w wr) (fun p wr => szP wr p)
  case atStart => exact ⟨g, k, v, l, r, rfl, HH.out, rfl, Ext.refl _⟩
  case round =>
    obtain ⟨g', k', v', l', r', rfl, ht, hfi, hx⟩ := hrel
    have HT := Lib.hid ht
    have HFI := Lib.hid hfi
    have HX := Lib.hid hx
    have c := ht.1.cells
    simp only [cellsAre, Nat.zero_add, Nat.reduceAdd, and_true] at c
    have HM := Lib.hid (szP_eq ht)
    rw [MT.ad_node] at HM
    cases l' with
    | nil =>
      have c' := c.2.2.1
      simp only [show MT.nil.ad = none from rfl] at c c'
      have HE := Lib.hid (show (MT.node g k v l r).er.first = (k', v') by rw [hfi]; rfl)
      clear ht hfi hx
      go_wp2
      go_returns
      exact ⟨_, rfl, ⟨_, _, _, _, _, rfl, HT.out, HE.out⟩, HX.out⟩
    | node gl lk lv ll lr =>
      simp only [MT.ad_node] at c
      have HM2 := Lib.hid (szP_eq ht.2.2.1)
      rw [MT.ad_node] at HM2
      clear ht hfi hx
      go_wp2
      go_roundw
      case rel => exact ⟨gl, lk, lv, ll, lr, rfl, HT.out.2.2.1, HFI.out, HX.out⟩
      case measure =>
        rw [HM.out, HM2.out]
        simp only [MT.er, Tr.size]
        omega
/-- What find returns. -/
def FndR (B : Nat → Nat) (Q : Nat → Prop) (t : Tr) (k : Str) (z : Value) (w' : World) : Prop :=
  (z = .pointer none ∧ ∀ p ∈ t.prs, p.1 ≠ k) ∨ ∃ g x l r, z = .pointer (some ⟨g, 0, none⟩) ∧ TrW w' B Q (.node g k x l r) ∧ (k, x) ∈ t.prs
set_option maxHeartbeats 6400000 in
set_option maxRecDepth 100000 in
theorem rfind_any (B : Nat → Nat) (Q : Nat → Prop) (k : Str) (t : MT) (w : World) (h : TrW w B Q t) (hs : Srtd t.er.prs) :
    Calls Try.prog 77 #[.pointer t.ad, .string k] w (Ret (FndR B Q t.er k) w) := by
  have HH := Lib.hid h
  have HS := Lib.hid hs
  clear h hs
  go_enter Try.func77, Try.ntmps77
  go_wp2
  go_loopw [0] (fun p wr => ∃ t' : MT, p = .pointer t'.ad ∧ TrW wr B Q t' ∧ Srtd t'.er.prs ∧ (∀ x, (k, x) ∈ t.er.prs ↔ (k, x) ∈ t'.er.prs) ∧ Ext w wr) (fun p wr => szP wr p)
  case atStart => exact ⟨t, rfl, HH.out, HS.out, fun _ => Iff.rfl, Ext.refl _⟩
  case round =>
    obtain ⟨t', rfl, ht, hsr, hiff, hx⟩ := hrel
    have HX := Lib.hid hx
    have HIF := Lib.hid hiff
    cases t' with
    | nil =>
      have HE := Lib.hid (show FndR B Q t.er k (.pointer none) wr from Or.inl ⟨rfl, fun p hp e => by
        obtain ⟨p1, p2⟩ := p
        simp only at e
        subst e
        have := (hiff p2).1 hp
        cases this⟩)
      rw [show MT.nil.ad = none from rfl]
      clear ht hsr hiff hx
      go_wp2
      go_returns
      exact ⟨_, rfl, HE.out, HX.out⟩
    | node g k' v' l r =>
      have HT := Lib.hid ht
      have c := ht.1.cells
      simp only [cellsAre, Nat.zero_add, Nat.reduceAdd, and_true] at c
      have HM := Lib.hid (szP_eq ht)
      have HML := Lib.hid (szP_eq ht.2.2.1)
      have HMR := Lib.hid (szP_eq ht.2.2.2)
      have hsr' : Srtd (l.er.prs ++ (k', v') :: r.er.prs) := hsr
      rw [srtd_mid] at hsr'
      have HSR := Lib.hid hsr'
      have hpe : (MT.node g k' v' l r).er.prs = l.er.prs ++ (k', v') :: r.er.prs := rfl
      rw [hpe] at HIF
      rw [MT.ad_node] at HM ⊢
      clear ht hsr hsr' hiff hx hpe
      by_cases c1 : sl k k' = true
      · have d1 : Op.bytesLess k.toList k'.toList = true := c1
        have d2 : (k'.toList == k.toList) = false := str_beq_f (Ne.symm (sl_ne c1))
        have HI2 := Lib.hid (show ∀ x, (k, x) ∈ t.er.prs ↔ (k, x) ∈ l.er.prs from fun x => by
          rw [HIF.out x, List.mem_append, List.mem_cons]
          constructor
          · rintro (h | h | h)
            · exact h
            · injection h with h1 _; exact absurd h1 (sl_ne c1)
            · exact absurd rfl (sl_ne (sl_trans c1 (HSR.out.2.2.2 _ h)))
          · exact Or.inl)
        go_wp2
        go_roundw
        case rel => exact ⟨l, rfl, HT.out.2.2.1, HSR.out.1, HI2.out, HX.out⟩
        case measure =>
          rw [HM.out, HML.out]
          simp only [MT.er, Tr.size]
          omega
      · have d1 : Op.bytesLess k.toList k'.toList = false := by simpa [sl] using c1
        by_cases c2 : sl k' k = true
        · have d2 : (k'.toList == k.toList) = false := str_beq_f (sl_ne c2)
          have HI2 := Lib.hid (show ∀ x, (k, x) ∈ t.er.prs ↔ (k, x) ∈ r.er.prs from fun x => by
            rw [HIF.out x, List.mem_append, List.mem_cons]
            constructor
            · rintro (h | h | h)
              · exact absurd rfl (sl_ne (sl_trans (HSR.out.2.2.1 _ h) c2))
              · injection h with h1 _; exact absurd h1.symm (sl_ne c2)
              · exact h
            · exact fun h => Or.inr (Or.inr h))
          go_wp2
          go_roundw
          case rel => exact ⟨r, rfl, HT.out.2.2.2, HSR.out.2.1, HI2.out, HX.out⟩
          case measure =>
            rw [HM.out, HMR.out]
            simp only [MT.er, Tr.size]
            omega
        · have ek : k = k' := sl_eq (by simpa using c1) (by simpa using c2)
          subst ek
          have d2 : (k.toList == k.toList) = true := by simp
          have HE := Lib.hid (show FndR B Q t.er k (.pointer (some ⟨g, 0, none⟩)) wr from Or.inr ⟨g, v', l, r, rfl, HT.out, (HIF.out v').2 (List.mem_append_right _ (List.mem_cons_self ..))⟩)
          go_wp2
          go_returns
          exact ⟨_, rfl, HE.out, HX.out⟩
theorem without_node (k' v' : Str) (l r : Tr) (k : Str) : (Tr.node k' v' l r).without k = if sl k k' = true then Tr.bal k' v' (l.without k) r else if sl k' k = true then Tr.bal k' v' l (r.without k) else
    match l, r with
    | .nil, r => r
    | l, .nil => l
    | l, .node rk rv rl rr => Tr.bal (Tr.node rk rv rl rr).first.1 (Tr.node rk rv rl rr).first.2 l ((Tr.node rk rv rl rr).without (Tr.node rk rv rl rr).first.1) := Tr.without.eq_def (.node k' v' l r) k
theorem without_size : ∀ (t : Tr) (k : Str), (t.without k).size ≤ t.size
  | .nil, k => by unfold Tr.without; exact Nat.le_refl _
  | .node k' v' l r, k => by
    rw [without_node]
    have h1 := without_size l k
    have h2 := without_size r k
    split
    · rw [Tr.bal_size]; simp only [Tr.size]; omega
    · split
      · rw [Tr.bal_size]; simp only [Tr.size]; omega
      · cases l with
        | nil => simp only [Tr.size]; omega
        | node lk lv ll lr =>
          cases r with
          | nil => simp only [Tr.size]; omega
          | node rk rv rl rr =>
            have h3 := without_size (.node rk rv rl rr) (Tr.node rk rv rl rr).first.1
            simp only
            rw [Tr.bal_size]
            simp only [Tr.size] at h3 ⊢
            omega
end Go.Proofs.Tb
