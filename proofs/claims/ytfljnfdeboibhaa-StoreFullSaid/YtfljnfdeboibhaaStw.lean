/- The disk in memory: a block gets a row of contents. -/
import Derived.Test.YtfljnfdeboibhaaStv
set_option linter.unusedVariables false
set_option linter.unusedSimpArgs false
namespace Go.Proofs.Tb
open Go.Maps Go.RowKit

def Dkg.put (g : Dkg) (k : Nat) (v : Value) (us : List Value) : Dkg :=
  { g with D := g.D.put (kI k) (.held v), Lv := fun j => if j = k then v else g.Lv j, us := fun j => if j = k then us else g.us j, lo := fun j => if j = k then true else g.lo j }
variable {w : World} {d : Nat} {g : Dkg} {cur : List (List Nat)} {bl : List (List (List Nat))} {down : Bool} {left : Nat}
theorem getD_setL {α : Type} (l : List α) (x d : α) {i : Nat} (hi : i < l.length) (j : Nat) : (l.set i x).getD j d = if j = i then x else l.getD j d := by
  by_cases h : j = i
  · subst h; simp [List.getD, List.getElem?_set, hi]
  · simp [List.getD, List.getElem?_set, h, Ne.symm h]
set_option maxRecDepth 100000 in
theorem DI.put (h : DI w d g cur bl down left) {k : Nat} (hk : k < cur.length) {w2 : World} (hc : Chg (fun b _ => g.lo k = true ∧ (g.Lv k).ownBlock = some b) w w2) {v2 : Value} {us2 : List Value} {cs : List (List Nat)}
    (hr : w2.ownsRow 0 TBY 1 v2 cs.length us2) (hs : ∀ j, j < cs.length → SeesB w2 (us2.getD j nlB) (cs.getD j z64)) (hne : cs ≠ []) (hb : (g.lo k = true ∧ v2.ownBlock = (g.Lv k).ownBlock) ∨ ∃ nb, v2.ownBlock = some nb ∧ w.heap.size ≤ nb) :
    ∃ w3, (Instr.mapUpdate TLM (.map (some g.m)) (.int .i64 (k : Int)) v2).run Try.prog w2 = .ok () w3 ∧ DI w3 d (g.put k v2 us2) cur (bl.set k cs) down left ∧ w2.mapTurned w3 g.m := by
  have hf := h.few
  have hsz := h.size_le
  have hm2 : w2.ownsMap Try.prog TIN RH g.m (Maps.size g.D) g.D := map_chg h.mp hc fun o hX => h.m_row (h.yes k hk hX.1).2.2.1 hX.2
  obtain ⟨w3, hrun, hm3, ht⟩ := World.ownsMap.store (H := Value) hm2 lawL Try.underlying67 (by unfold maxLen; omega) (key := .int .i64 (k : Int)) (keyK (k := k) (by omega)) (R := RH) (val := v2) (d := .held v2) (ps := []) rfl
  refine ⟨w3, hrun, ?_, ht⟩
  have hg := ht.grown
  have hblt : g.lo k = true → ∀ b, (g.Lv k).ownBlock = some b → b < w.heap.size := fun hlo b e => by
    obtain ⟨cs, hcs⟩ := own_lt' (h.yes k hk hlo).2.2.1 e
    exact obj_lt hcs
  have hold : ∀ b o, w.heap[b]? = some o → b ≠ g.m → (g.lo k = true → (g.Lv k).ownBlock ≠ some b) → w3.heap[b]? = some o := fun b o hb1 hbm hbk => by
    have h2 := hc.same b o hb1 fun hX => hbk hX.1 hX.2
    exact (hg.block b (obj_lt h2) (fun e => hbm (by injection e))).trans h2
  have hrow3 : ∀ {T : TypeId} {v : Value} {n : Nat} {xs : List Value}, w2.ownsRow 0 T 1 v n xs → v.ownBlock ≠ some g.m → w3.ownsRow 0 T 1 v n xs := fun {T v n xs} hv hvm => hv.kept hg (Or.inr hvm)
  have hnm2 : ∀ {T : TypeId} {v : Value} {n : Nat} {xs : List Value}, w2.ownsRow 0 T 1 v n xs → v.ownBlock ≠ some g.m := fun {T v n xs} hv e => by
    obtain ⟨cs, hcs⟩ := own_lt' hv e
    obtain ⟨es, clock, hmm, _⟩ := hm2
    rw [hcs] at hmm
    cases hmm
  have hs3 : ∀ {v : Value} {bs : List Nat}, SeesB w2 v bs → SeesB w3 v bs := fun {v bs} hv => by
    rcases hv with hv | ⟨hv, hvl⟩
    · exact Or.inl hv
    · exact Or.inr ⟨hrow3 hv (hnm2 hv), hvl⟩
  have hs2 : ∀ {v : Value} {bs : List Nat}, SeesB w v bs → SeesB w2 v bs := fun {v bs} hv => by
    rcases hv with hv | ⟨hv, hvl⟩
    · exact Or.inl hv
    · refine Or.inr ⟨own_keep hv fun b cs _ _ hb => (hc.same b _ hb fun hX => ?_).trans hb.symm, hvl⟩
      obtain ⟨cs', hcs'⟩ := own_lt' (h.yes k hk hX.1).2.2.1 hX.2
      rw [hb] at hcs'
      injection hcs' with e
      injection e with _ e
      revert e
      decide
  have hblen : bl.length = cur.length := h.len
  have hkb : k < bl.length := by omega
  have hT := h.tidy
  have hkl : WideAt.IsKeyLit (kI k) := trivial
  have hxk : ∀ j, j ≠ k → (bl.set k cs).getD j [] = bl.getD j [] := fun j hj => by rw [getD_setL _ _ _ hkb, if_neg hj]
  have hxs : (bl.set k cs).getD k [] = cs := by rw [getD_setL _ _ _ hkb, if_pos rfl]
  refine ⟨?_, h.lft, ?_, by rw [List.length_set]; exact h.len, h.few, own_tight hm3, fun j hj => hs3 (hs2 (h.sees j hj)), ?_, ?_, ?_, ?_, ?_⟩
  · exact hold d _ h.dk h.d_m fun hlo e => h.d_row (h.yes k hk hlo).2.2.1 e
  · refine own_keep h.row fun b cs' hbv _ hb => (hold b _ hb (fun e => h.m_row h.row (by rw [show g.v.ownBlock = some b from hbv, e])) fun hlo e => (h.apart k hk hlo b e).1 hbv).trans hb.symm
  · intro l hl
    by_cases e : l = kI k
    · exact ⟨k, hk, e⟩
    · refine h.keys l ?_
      rw [← hl]
      exact (has_put_other e _).symm
  · intro j hj hlo
    have hjk : j ≠ k := fun e => by
      subst e
      simp [Dkg.put] at hlo
    have hlo' : g.lo j = false := by simpa [Dkg.put, hjk] using hlo
    show Maps.has (g.D.put (kI k) (.held v2)) (kI j) = false
    rw [has_put_other (kI_ne hjk)]
    exact h.no j hj hlo'
  · intro j hj hlo
    by_cases hjk : j = k
    · subst hjk
      rw [hxs]
      refine ⟨has_put_same hT.isMap hkl _, fun z => ?_, ?_, fun i hi => ?_⟩
      · simp only [Dkg.put, if_true]
        exact atKey_put_same hT.isMap hkl _ z
      · simp only [Dkg.put, if_true]
        exact hrow3 hr (hnm2 hr)
      · simp only [Dkg.put, if_true]
        exact hs3 (hs i hi)
    · have hlo' : g.lo j = true := by simpa [Dkg.put, hjk] using hlo
      obtain ⟨y1, y2, y3, y4⟩ := h.yes j hj hlo'
      rw [hxk j hjk]
      refine ⟨?_, fun z => ?_, ?_, fun i hi => ?_⟩
      · show Maps.has (g.D.put (kI k) (.held v2)) (kI j) = true
        rw [has_put_other (kI_ne hjk)]
        exact y1
      · show (g.D.put (kI k) (.held v2)).atKey (kI j) z = .held (if j = k then v2 else g.Lv j)
        rw [atKey_put_other (kI_ne hjk), if_neg hjk]
        exact y2 z
      · show w3.ownsRow 0 TBY 1 (if j = k then v2 else g.Lv j) _ (if j = k then us2 else g.us j)
        rw [if_neg hjk, if_neg hjk]
        exact own_keep y3 fun b cs' hbv _ hb => (hold b _ hb (fun e => h.m_row y3 (by rw [hbv, e])) fun hlo2 e => (h.apart j hj hlo' b hbv).2 k hk (Ne.symm hjk) hlo2 e).trans hb.symm
      · show SeesB w3 ((if j = k then us2 else g.us j).getD i nlB) _
        rw [if_neg hjk]
        exact hs3 (hs2 (y4 i hi))
  · intro j hj
    by_cases hjk : j = k
    · subst hjk; rw [hxs]; exact hne
    · rw [hxk j hjk]; exact h.ne j hj
  · have hvk : ∀ b, v2.ownBlock = some b → g.v.ownBlock ≠ some b ∧ ∀ j, j < cur.length → j ≠ k → g.lo j = true → (g.Lv j).ownBlock ≠ some b := fun b hbv => by
      rcases hb with ⟨hlo, e⟩ | ⟨nb, e, hnb⟩
      · rw [e] at hbv
        exact h.apart k hk hlo b hbv
      · rw [e] at hbv
        injection hbv with hbv
        subst hbv
        refine ⟨fun e1 => ?_, fun j hj _ hlo e1 => ?_⟩
        · obtain ⟨cs, hcs⟩ := own_lt' h.row e1
          have := obj_lt hcs
          omega
        · obtain ⟨cs, hcs⟩ := own_lt' (h.yes j hj hlo).2.2.1 e1
          have := obj_lt hcs
          omega
    intro j hj hlo b hbj
    by_cases hjk : j = k
    · subst hjk
      have e : (g.put j v2 us2).Lv j = v2 := by simp [Dkg.put]
      rw [e] at hbj
      refine ⟨(hvk b hbj).1, fun i hi hij hlo2 => ?_⟩
      have e2 : (g.put j v2 us2).Lv i = g.Lv i := by simp [Dkg.put, hij]
      rw [e2]
      exact (hvk b hbj).2 i hi hij (by simpa [Dkg.put, hij] using hlo2)
    · have e : (g.put k v2 us2).Lv j = g.Lv j := by simp [Dkg.put, hjk]
      rw [e] at hbj
      have hlo' : g.lo j = true := by simpa [Dkg.put, hjk] using hlo
      have ha := h.apart j hj hlo' b hbj
      refine ⟨ha.1, fun i hi hij hlo2 => ?_⟩
      by_cases hik : i = k
      · subst hik
        have e2 : (g.put i v2 us2).Lv i = v2 := by simp [Dkg.put]
        rw [e2]
        intro e3
        exact (hvk b e3).2 j hj hjk hlo' hbj
      · have e2 : (g.put k v2 us2).Lv i = g.Lv i := by simp [Dkg.put, hik]
        rw [e2]
        exact ha.2 i hi hij (by simpa [Dkg.put, hik] using hlo2)
theorem Dkg.put_fp {k n : Nat} {v : Value} {us : List Value} {b : Nat} (h : (g.put k v us).fp d n b) : g.fp d n b ∨ v.ownBlock = some b := by
  rcases h with h | h | h | ⟨j, hj, hl, h⟩
  · exact Or.inl (Or.inl h)
  · exact Or.inl (Or.inr (Or.inl h))
  · exact Or.inl (Or.inr (Or.inr (Or.inl h)))
  · by_cases hjk : j = k
    · subst hjk
      exact Or.inr (by simpa [Dkg.put] using h)
    · refine Or.inl (Or.inr (Or.inr (Or.inr ⟨j, hj, by simpa [Dkg.put, hjk] using hl, by simpa [Dkg.put, hjk] using h⟩)))
end Go.Proofs.Tb
