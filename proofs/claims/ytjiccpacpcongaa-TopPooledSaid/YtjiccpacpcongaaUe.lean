/- solve: where its elimination stands. -/
import Derived.Test.YtjiccpacpcongaaUd
set_option linter.unusedVariables false
set_option linter.unusedSimpArgs false
namespace Go.Proofs.Tb
open Go.RowKit Go.Lib
attribute [local go_sem] cell_set_same

abbrev TFD : TypeId := 39
theorem LdK.start (u : Nat) : LdK u 0 [] (List.replicate u 0) := ⟨List.length_replicate, fun i h => by omega, fun j hj => Or.inl (by
  unfold ro
  rw [List.getD_eq_getElem?_getD, List.getElem?_replicate, if_pos hj]
  rfl)⟩
theorem LdK.step {q : Int} {P u : Nat} {S : (Nat → Int) → Prop} {M : List (List Int)} {piv : List Nat} {c k : Nat} {lead : List Int} (hg : GeI q P u S M piv c k) (hl : LdK u k piv lead) (hc : c < u) : LdK u (k + 1) (piv ++ [c]) (lead.set c ((k + 1 : Nat) : Int)) := by
  have hpl := hg.pl
  have hpg : ∀ i, i < k → (piv ++ [c]).getD i 0 = piv.getD i 0 := fun i hi => by
    rw [List.getD_eq_getElem?_getD, List.getElem?_append_left (by omega), ← List.getD_eq_getElem?_getD]
  have hpk : (piv ++ [c]).getD k 0 = c := by
    rw [List.getD_eq_getElem?_getD, List.getElem?_append_right (by omega), hpl, Nat.sub_self]
    rfl
  have hs : ∀ j, ro (lead.set c ((k + 1 : Nat) : Int)) j = if j = c then ((k + 1 : Nat) : Int) else ro lead j := fun j => getD_set' _ _ _ _ _ (by rw [hl.1]; exact hc)
  refine ⟨by rw [List.length_set]; exact hl.1, fun i hi => ?_, fun j hj => ?_⟩
  · by_cases hik : i < k
    · rw [hpg i hik, hs, if_neg (by have := hg.pc i hik; omega)]
      exact hl.2.1 i hik
    · obtain rfl : i = k := by omega
      rw [hpk, hs, if_pos rfl]
      rfl
  · rw [hs]
    by_cases hjc : j = c
    · subst hjc
      rw [if_pos rfl]
      exact Or.inr ⟨k, by omega, hpk.symm, rfl⟩
    · rw [if_neg hjc]
      rcases hl.2.2 j hj with h0 | ⟨i, hi, h1, h2⟩
      · exact Or.inl h0
      · exact Or.inr ⟨i, by omega, by rw [hpg i hi]; exact h1, h2⟩
/-- The rows while column c goes: those below i are done. -/
structure ElS (q : Int) (P k c i : Nat) (p : List Int) (M1 M3 : List (List Int)) : Prop where
  len : M3.length = P
  lead : M3.getD k [] = p
  rest : ∀ j, j < P → j ≠ k → M3.getD j [] = if j < i then elC q p c (M1.getD j []) else M1.getD j []
theorem ElS.start {q : Int} {P k c : Nat} {p : List Int} {M1 : List (List Int)} (hl : M1.length = P) (hk : k < P) : ElS q P k c 0 p M1 (M1.set k p) :=
  ⟨by rw [List.length_set]; exact hl, by rw [getD_set' _ _ _ _ _ (by omega), if_pos rfl], fun j _ hne => by rw [getD_set' _ _ _ _ _ (by omega), if_neg hne, if_neg (by omega)]⟩
theorem ElS.same {q : Int} {P k c i : Nat} {p : List Int} {M1 M3 : List (List Int)} (h : ElS q P k c i p M1 M3) (hi : i = k ∨ ro (M1.getD i []) c = 0) : ElS q P k c (i + 1) p M1 M3 :=
  ⟨h.len, h.lead, fun j hj hne => by
    rw [h.rest j hj hne]
    by_cases hji : j < i
    · rw [if_pos hji, if_pos (by omega)]
    · rw [if_neg hji]
      by_cases hj2 : j < i + 1
      · obtain rfl : j = i := by omega
        rw [if_pos hj2]
        unfold elC
        rcases hi with hi | hi
        · exact absurd hi hne
        · rw [if_pos hi]
      · rw [if_neg hj2]⟩
theorem ElS.put {q : Int} {P k c i : Nat} {p : List Int} {M1 M3 : List (List Int)} (h : ElS q P k c i p M1 M3) (hik : i ≠ k) (hiP : i < P) (hn : ro (M1.getD i []) c ≠ 0) : ElS q P k c (i + 1) p M1 (M3.set i (elR q p (ro (M1.getD i []) c) (M1.getD i []))) := by
  have hl := h.len
  refine ⟨by rw [List.length_set]; exact hl, by rw [getD_set' _ _ _ _ _ (by omega), if_neg (Ne.symm hik)]; exact h.lead, fun j hj hne => ?_⟩
  rw [getD_set' _ _ _ _ _ (by omega)]
  by_cases hji : j = i
  · subst hji
    rw [if_pos rfl, if_pos (by omega)]
    unfold elC
    rw [if_neg hn]
  · rw [if_neg hji, h.rest j hj hne]
    by_cases h2 : j < i
    · rw [if_pos h2, if_pos (by omega)]
    · rw [if_neg h2, if_neg (by omega)]
theorem each_mul {q : Int} {u : Nat} {r : List Int} (h : RoK q u r) (n : Int) : (List.range (u + 1)).map (fun j => ro r j * ro (List.replicate (u + 1) n) j % q) = scR q r n := list_ro (by unfold scR; simp [h.1]) fun j hj => by
  rw [List.length_map, List.length_range] at hj
  rw [ro_range _ _ hj, scR_at h n (by omega)]
  have : ro (List.replicate (u + 1) n) j = n := by unfold ro; rw [List.getD_eq_getElem?_getD, List.getElem?_replicate, if_pos hj]; rfl
  rw [this]
theorem each_sub {q : Int} {u : Nat} {r p : List Int} (h : RoK q u r) (hp : RoK q u p) (n : Int) : (List.range (u + 1)).map (fun j => (ro r j - ro (scR q p n) j + q) % q) = elR q p n r := list_ro (by unfold elR; simp [h.1]) fun j hj => by
  rw [List.length_map, List.length_range] at hj
  rw [ro_range _ _ hj, elR_at h p n (by omega), scR_at hp n (by omega)]
/-- Rows of rows whose inner rows lie in N. -/
def OwN (N : Nat → Prop) (base : Nat) (w : World) (v : Value) (M : List (List Int)) : Prop := ∃ zs, w.ownsRow base TLI 1 v M.length zs ∧ RowsC w zs M ∧ ∀ i, i < M.length → ∀ b, (zs.getD i nlC).ownBlock = some b → N b
theorem OwN.m {N : Nat → Prop} {base : Nat} {w : World} {v : Value} {M : List (List Int)} (h : OwN N base w v M) : OwM base w v M := by
  obtain ⟨zs, h1, h2, _⟩ := h
  exact ⟨zs, h1, h2⟩
theorem OwM.n {base : Nat} {w : World} {v : Value} {M : List (List Int)} (h : OwM base w v M) : OwN (fun b => b < w.heap.size) base w v M := by
  obtain ⟨zs, h1, h2⟩ := h
  exact ⟨zs, h1, h2, fun i hi b hb => own_lt (h2.2 i hi) b hb⟩
theorem OwN.mono {N N' : Nat → Prop} {base : Nat} {w : World} {v : Value} {M : List (List Int)} (h : OwN N base w v M) (hN : ∀ b, N b → N' b) : OwN N' base w v M := by
  obtain ⟨zs, h1, h2, h3⟩ := h
  exact ⟨zs, h1, h2, fun i hi b hb => hN b (h3 i hi b hb)⟩
theorem OwN.ext {N : Nat → Prop} {base : Nat} {w w' : World} {v : Value} {M : List (List Int)} (h : OwN N base w v M) (x : Ext w w') : OwN N base w' v M := by
  obtain ⟨zs, h1, h2, h3⟩ := h
  exact ⟨zs, own_below h1 x, h2.ext x, h3⟩
theorem OwN.set_ {N : Nat → Prop} {base : Nat} {w : World} {b n c k : Nat} {M : List (List Int)} {z : Value} {l : List Int} (h : OwN N base w (.slice (some ⟨b, 0, none⟩) n c) M) (hn : n = M.length) (hk : k < n) (hz : OwC 0 w z l) (hN : ∀ b, z.ownBlock = some b → N b) : OwN N base (w.setCell ⟨b, k, none⟩ z) (.slice (some ⟨b, 0, none⟩) n c) (M.set k l) ∧ w.grownBy (w.setCell ⟨b, k, none⟩ z) (some b) := by
  subst hn
  obtain ⟨zs, h1, h2, h3⟩ := h
  obtain ⟨s1, s2⟩ := h1.stored k z
  have hzl : zs.length = M.length := h2.1
  refine ⟨⟨zs.set k z, by rw [List.length_set]; exact s1, ⟨by rw [List.length_set, List.length_set]; exact h2.1, fun i hi => ?_⟩, fun i hi b' hb' => ?_⟩, s2⟩
  · rw [List.length_set] at hi
    rw [getD_setL _ _ _ (by omega), getD_setL _ _ _ hk]
    by_cases hik : i = k
    · rw [if_pos hik, if_pos hik]; exact hz.grown (v := .slice (some ⟨b, 0, none⟩) M.length c) h1 s2
    · rw [if_neg hik, if_neg hik]; exact (h2.2 i hi).grown (v := .slice (some ⟨b, 0, none⟩) M.length c) h1 s2
  · rw [List.length_set] at hi
    rw [getD_setL _ _ _ (by omega)] at hb'
    by_cases hik : i = k
    · rw [if_pos hik] at hb'; exact hN b' hb'
    · rw [if_neg hik] at hb'; exact h3 i hi b' hb'
theorem OwN.at_ {N : Nat → Prop} {base : Nat} {w : World} {A : Option Addr} {n c : Nat} {M : List (List Int)} (h : OwN N base w (.slice A n c) M) {k : Nat} (hk : k < M.length) : ∃ b z, A = some ⟨b, 0, none⟩ ∧ w.cell? ⟨b, k, none⟩ = some z ∧ OwC 0 w z (M.getD k []) ∧ ∀ b, z.ownBlock = some b → N b := by
  obtain ⟨zs, h1, h2, h3⟩ := h
  obtain ⟨b, cap, e⟩ := own_form0 h1 (by omega)
  injection e with e1 e2 e3
  subst e1 e2 e3
  obtain ⟨b', o', e', hc⟩ := (own_rvv h1).at_ (by omega)
  injection e' with e'
  injection e' with e1 e2
  subst e1 e2
  have hkz : k < zs.length := by rw [h2.1]; exact hk
  have := hc k (zs.getD k nlC) (by rw [List.getD_eq_getElem?_getD, List.getElem?_eq_getElem hkz]; rfl)
  rw [Nat.zero_add] at this
  exact ⟨b, _, rfl, this, h2.2 k hk, h3 k hk⟩
theorem each_mul_any {q u u1 bf : Nat} (hq : 5 ≤ q) (hq2 : q ≤ 13) (hu : u + 1 = u1) (hu2 : u1 ≤ 1000) {r : List Int} (hr : RoK (q : Int) u r) {n : Int} (hn : 0 ≤ n ∧ n < (q : Int)) (v : World) {A A2 : Option Addr} {c c2 : Nat} (h1 : Rv v 1 A u1 c (ci r)) (h2 : Rv v 1 A2 u1 c2 (ci (List.replicate u1 n))) (hb : Blk v bf TFD #[.int .i64 (q : Int)]) :
    Calls Try.prog 32 #[.func (.func 30) #[] #[.pointer (some ⟨bf, 0, none⟩)], .slice A u1 c, .slice A2 u1 c2] v (Ret (fun z w' => ∃ A' c', z = .slice A' u1 c' ∧ OwC v.heap.size w' (.slice A' u1 c') (scR (q : Int) r n)) v) := by
  subst hu
  have := reach_any (fun a b => a * b % (q : Int)) 30 bf (fun a => 0 ≤ a ∧ a < (q : Int)) v h1 h2 hr.1 List.length_replicate (by omega) hu2 (fun j hj => hr.at_ (by omega)) (fun j hj => (by unfold ro; rw [List.getD_eq_getElem?_getD, List.getElem?_replicate, if_pos hj]; exact hn)) enter30 (fun a b W' ha hb' hx => rmulc_any (by omega) (by omega) ha hb' W' ((hb.below hx).cells.1))
  refine this.mono ?_
  rintro e w' ⟨z, rfl, oz, b⟩
  rw [each_mul hr n] at oz
  obtain ⟨A3, c3, e3, _⟩ := oz.form
  rw [show (scR (q : Int) r n).length = u + 1 by unfold scR; rw [List.length_map, hr.1]] at e3
  subst e3
  exact ⟨_, rfl, ⟨A3, c3, rfl, oz⟩, b⟩
theorem each_sub_any {q u u1 bf : Nat} (hq : 5 ≤ q) (hq2 : q ≤ 13) (hu : u + 1 = u1) (hu2 : u1 ≤ 1000) {r p : List Int} (hr : RoK (q : Int) u r) (hp : RoK (q : Int) u p) (n : Int) (v : World) {A A2 : Option Addr} {c c2 : Nat} (h1 : Rv v 1 A u1 c (ci r)) (h2 : Rv v 1 A2 u1 c2 (ci (scR (q : Int) p n))) (hb : Blk v bf TFD #[.int .i64 (q : Int)]) :
    Calls Try.prog 32 #[.func (.func 31) #[] #[.pointer (some ⟨bf, 0, none⟩)], .slice A u1 c, .slice A2 u1 c2] v (Ret (fun z w' => ∃ A' c', z = .slice A' u1 c' ∧ OwC v.heap.size w' (.slice A' u1 c') (elR (q : Int) p n r)) v) := by
  subst hu
  have hs := scR_ok (by omega) hp n
  have := reach_any (fun a b => (a - b + (q : Int)) % (q : Int)) 31 bf (fun a => 0 ≤ a ∧ a < (q : Int)) v h1 h2 hr.1 hs.1 (by omega) hu2 (fun j hj => hr.at_ (by omega)) (fun j hj => hs.at_ (by omega)) enter31 (fun a b W' ha hb' hx => rsubc_any (by omega) (by omega) ha hb' W' ((hb.below hx).cells.1))
  refine this.mono ?_
  rintro e w' ⟨z, rfl, oz, b⟩
  rw [each_sub hr hp n] at oz
  obtain ⟨A3, c3, e3, _⟩ := oz.form
  rw [show (elR (q : Int) p n r).length = u + 1 by unfold elR; rw [List.length_map, List.length_range, hr.1]] at e3
  subst e3
  exact ⟨_, rfl, ⟨A3, c3, rfl, oz⟩, b⟩
theorem tabK_skip {n : Nat} {g : Nat → Int} {k : Nat} (h : g k = 0) : tabK n g (k + 1) = tabK n g k := list_ro (by rw [tabK_len, tabK_len]) fun j hj => by
  rw [tabK_len] at hj
  rw [tabK_at hj, tabK_at hj]
  by_cases hjk : j = k
  · subst hjk; rw [if_pos (by omega), if_neg (by omega), h]
  · by_cases h2 : j < k
    · rw [if_pos h2, if_pos (by omega)]
    · rw [if_neg h2, if_neg (by omega)]
/-- What is read off. -/
def outF (M : List (List Int)) (lead : List Int) (u j : Nat) : Int := if ro lead j = 0 then 0 else mt M (ro lead j - 1).toNat u
theorem outF_in {q : Int} {P u k : Nat} {S : (Nat → Int) → Prop} {M : List (List Int)} {piv : List Nat} {lead : List Int} (hq : 0 < q) (hg : GeI q P u S M piv u k) (hl : LdK u k piv lead) {j : Nat} (hj : j < u) : 0 ≤ outF M lead u j ∧ outF M lead u j < q := by
  unfold outF
  split
  · exact ⟨Int.le_refl _, hq⟩
  · rcases hl.2.2 j hj with h0 | ⟨i, hi, _, h2⟩
    · exact absurd h0 (by assumption)
    · rw [h2, Int.add_sub_cancel, Int.toNat_natCast]
      have := hg.kP
      exact (hg.row i (by omega)).at_ (Nat.le_refl _)
theorem outF_sol {q : Int} {P u k : Nat} {S : (Nat → Int) → Prop} {M : List (List Int)} {piv : List Nat} {lead : List Int} (hg : GeI q P u S M piv u k) (hl : LdK u k piv lead) {v0 : Nat → Int} (hv : S v0) : S (ro ((List.range u).map (outF M lead u))) :=
  hg.done hl hv fun j hj => ⟨fun h0 => by rw [ro_range _ _ hj]; unfold outF; rw [if_pos h0], fun i hi h => by
    rw [ro_range _ _ hj]
    unfold outF
    rw [if_neg (by omega), h, Int.add_sub_cancel, Int.toNat_natCast]⟩
/-- Where solve stands. -/
structure SvS (q : Nat) (P u base : Nat) (S : (Nat → Int) → Prop) (w W : World) (rb rc bf lb lc : Nat) (M : List (List Int)) (piv : List Nat) (lead : List Int) (c k : Nat) : Prop where
  ge : GeI (q : Int) P u S M piv c k
  ld : LdK u k piv lead
  om : OwN (fun b => b ≠ lb) base W (.slice (some ⟨rb, 0, none⟩) P rc) M
  ol : OwC w.heap.size W (.slice (some ⟨lb, 0, none⟩) u lc) lead
  bx : Blk W bf TFD #[.int .i64 (q : Int)]
  bl : Below base w W
/-- .. in the midst of a column. -/
structure MdS (q : Nat) (P u base : Nat) (w W : World) (rb rc bf lb lc : Nat) (M : List (List Int)) (lead : List Int) : Prop where
  om : OwN (fun b => b ≠ lb) base W (.slice (some ⟨rb, 0, none⟩) P rc) M
  ol : OwC w.heap.size W (.slice (some ⟨lb, 0, none⟩) u lc) lead
  bx : Blk W bf TFD #[.int .i64 (q : Int)]
  bl : Below base w W
  ln : M.length = P
theorem MdS.ext {q P u base : Nat} {w W W' : World} {rb rc bf lb lc : Nat} {M : List (List Int)} {lead : List Int} (h : MdS q P u base w W rb rc bf lb lc M lead) (hb : base ≤ w.heap.size) (x : Ext W W') : MdS q P u base w W' rb rc bf lb lc M lead :=
  ⟨h.om.ext x, h.ol.below x, h.bx.below x, h.bl.trans (Below.mono x (Nat.le_trans hb h.bl.size)), h.ln⟩
/-- A row is set. -/
theorem MdS.set_ {q P u base : Nat} {w W : World} {rb rc bf lb lc : Nat} {M : List (List Int)} {lead : List Int} (h : MdS q P u base w W rb rc bf lb lc M lead) (hbr : base ≤ rb) {k : Nat} (hk : k < P) {z : Value} {l : List Int} (hz : OwC 0 W z l) (hzn : ∀ b, z.ownBlock = some b → b ≠ lb) : MdS q P u base w (W.setCell ⟨rb, k, none⟩ z) rb rc bf lb lc (M.set k l) lead := by
  obtain ⟨o, g⟩ := h.om.set_ h.ln.symm hk hz hzn
  obtain ⟨zs, ho, _⟩ := h.om
  have hol := h.ol
  unfold OwC at hol
  exact ⟨o, own_keep hol fun _ _ _ _ hb => (grow_blk (v := .slice (some ⟨rb, 0, none⟩) P rc) g ho (show TLI ≠ TIN by decide) hb).trans hb.symm, grow_blk (v := .slice (some ⟨rb, 0, none⟩) P rc) g ho (show TLI ≠ TFD by decide) h.bx, h.bl.setCell (p := ⟨rb, k, none⟩) hbr z, by rw [List.length_set]; exact h.ln⟩
theorem MdS.keep {q P u base : Nat} {w W : World} {rb rc bf lb lc : Nat} {M : List (List Int)} {lead : List Int} (h : MdS q P u base w W rb rc bf lb lc M lead) {k : Nat} (hk : k < P) {z : Value} {l : List Int} (hz : OwC 0 W z l) {z' : Value} {l' : List Int} (hz' : OwC 0 W z' l') : OwC 0 (W.setCell ⟨rb, k, none⟩ z) z' l' := by
  obtain ⟨_, g⟩ := h.om.m.set_ h.ln.symm hk hz
  obtain ⟨zs, ho, _⟩ := h.om
  exact hz'.grown (v := .slice (some ⟨rb, 0, none⟩) P rc) ho g
theorem MdS.at_ {q P u base : Nat} {w W : World} {rb rc bf lb lc : Nat} {M : List (List Int)} {lead : List Int} (h : MdS q P u base w W rb rc bf lb lc M lead) {k : Nat} (hk : k < P) : (∃ z, W.cell? ⟨rb, k, none⟩ = some z ∧ OwC 0 W z (M.getD k []) ∧ ∀ b, z.ownBlock = some b → b ≠ lb) ∧ ∀ j, W.frozen? ⟨rb, j, none⟩ = false := by
  obtain ⟨b, z, e, h1, h2, h3⟩ := h.om.at_ (k := k) (by rw [h.ln]; exact hk)
  injection e with e
  injection e with e
  subst e
  refine ⟨⟨z, h1, h2, h3⟩, ?_⟩
  obtain ⟨zs, ho, _⟩ := h.om
  rw [h.ln] at ho
  exact ho.frozenAt
/-- An element of lead is set. -/
theorem MdS.led {q P u base : Nat} {w W : World} {rb rc bf lb lc : Nat} {M : List (List Int)} {lead : List Int} (h : MdS q P u base w W rb rc bf lb lc M lead) (hb : base ≤ w.heap.size) (hu : 0 < u) (j : Nat) (x : Int) : MdS q P u base w (W.setCell ⟨lb, j, none⟩ (.int .i64 x)) rb rc bf lb lc M (lead.set j x) := by
  have hn := h.ol.len
  have hol := h.ol
  have hge : w.heap.size ≤ lb := own_geE hol lb rfl
  unfold OwC at hol
  have s2 := (show World.ownsRow W w.heap.size TIN 1 (.slice (some ⟨lb, 0, none⟩) u lc) u (ci lead) from by rw [hn] at hol; exact hol).stored j (.int .i64 x)
  refine ⟨?_, h.ol.set_ j x, ?_, h.bl.setCell (p := ⟨lb, j, none⟩) (Nat.le_trans hb hge) _, h.ln⟩
  · obtain ⟨zs, ho, hr, ha⟩ := h.om
    obtain ⟨cs, hcs⟩ := own_lt' (own_lower h.ol (Nat.zero_le _)) (show (Value.slice (some ⟨lb, 0, none⟩) u lc).ownBlock = some lb from rfl)
    exact ⟨zs, own_far (p := ⟨lb, j, none⟩) ho hcs (by decide) _, ⟨hr.1, fun i hi => own_keep (hr.2 i hi) fun g cs' hg _ hb' => Below.heap_setCell W ⟨lb, j, none⟩ (.int .i64 x) g (ha i hi g hg)⟩, ha⟩
  · exact grow_blk (v := .slice (some ⟨lb, 0, none⟩) u lc) s2.2 (show World.ownsRow W w.heap.size TIN 1 (.slice (some ⟨lb, 0, none⟩) u lc) u (ci lead) from by rw [hn] at hol; exact hol) (show TIN ≠ TFD by decide) h.bx
theorem setCell_other' (W : World) (p : Addr) (v : Value) (g : Nat) (h : g ≠ p.block) : (W.setCell p v).heap[g]? = W.heap[g]? := Below.heap_setCell W p v g h
theorem SvS.md {q P u base : Nat} {S : (Nat → Int) → Prop} {w W : World} {rb rc bf lb lc : Nat} {M : List (List Int)} {piv : List Nat} {lead : List Int} {c k : Nat} (h : SvS q P u base S w W rb rc bf lb lc M piv lead c k) : MdS q P u base w W rb rc bf lb lc M lead := ⟨h.om, h.ol, h.bx, h.bl, h.ge.len⟩
end Go.Proofs.Tb
