/- Plain law: the joining of the least nodes has one outcome. -/
import Derived.Test.YtcjddfhhofoidaaDoorHuf
set_option linter.unusedVariables false
set_option linter.unusedSimpArgs false
namespace Go.Proofs.Tb

theorem perm_cons_head {n : Nat} {bs : List Tt} (h : Hok n bs) {a b : Tt} (ha : a ∈ bs) (hb : b ∈ bs) {x : Int} (hx : x ∈ a.2) (hy : x ∈ b.2) : a = b := by
  have hnd : (allN bs).Nodup := h.all.nodup_iff.2 (by
    unfold upL
    unfold List.Nodup
    rw [List.pairwise_map]
    exact (List.nodup_range (n := n)).imp (fun h e => h (by omega)))
  unfold allN at hnd
  obtain ⟨s, t, rfl⟩ := List.append_of_mem ha
  rw [List.flatMap_append, List.flatMap_cons] at hnd
  have h1 := List.nodup_append.1 hnd
  have h2 := List.nodup_append.1 h1.2.1
  rcases List.mem_append.1 hb with hb | hb
  · exact absurd rfl (h1.2.2 x (List.mem_flatMap.2 ⟨b, hb, hy⟩) x (List.mem_append_left _ hx))
  · rcases List.mem_cons.1 hb with rfl | hb
    · rfl
    · exact absurd rfl (h2.2.2 x hx x (List.mem_flatMap.2 ⟨b, hb, hy⟩))
/-- Two nodes of the same key are one. -/
theorem Hok.key {n : Nat} {bs : List Tt} (h : Hok n bs) (hn : n ≤ 1000) {a b : Tt} (ha : a ∈ bs) (hb : b ∈ bs) (hk : nk a = nk b) : a = b := by
  obtain ⟨x, t, e, h1, h2⟩ := h.nok hn ha
  obtain ⟨y, u, e', h1', h2'⟩ := h.nok hn hb
  unfold nk at hk
  rw [e, e'] at hk
  simp only [List.headD_cons] at hk
  have hxy : x = y := by omega
  exact perm_cons_head h ha hb (by rw [e]; exact List.mem_cons_self ..) (by rw [e', hxy]; exact List.mem_cons_self ..)
theorem sort_uniq {n : Nat} {l l' bs bs' : List Tt} (h : Hok n bs) (hn : n ≤ 1000) (hp : l.Perm bs) (hp' : l'.Perm bs') (hbb : bs.Perm bs') (h1 : (l.map nk).Pairwise (· ≤ ·)) (h2 : (l'.map nk).Pairwise (· ≤ ·)) : l = l' := by
  rw [List.pairwise_map] at h1 h2
  refine List.Perm.eq_of_pairwise (le := fun a b => nk a ≤ nk b) (fun a b ha hb hab hba => ?_) h1 h2 (hp.trans (hbb.trans hp'.symm))
  exact h.key hn (hp.subset ha) (hbb.symm.subset (hp'.subset hb)) (Int.le_antisymm hab hba)
theorem HRk.det {ws : List Int} (hw : Wok ws) : ∀ {k : Nat} {bs bs' : List Tt} {ls ls' : List Int} {S S' : Int}, HRk ws k bs ls S → HRk ws k bs' ls' S' → bs = bs' ∧ ls = ls' ∧ S = S'
  | 0, _, _, _, _, _, _, ⟨h1, h2, h3⟩, ⟨h1', h2', h3'⟩ => ⟨h1.trans h1'.symm, h2.trans h2'.symm, h3.trans h3'.symm⟩
  | k + 1, _, _, _, _, _, _, ⟨bs0, ls0, S0, a, b, r, h0, hp, hs, e1, e2, e3⟩, ⟨bs0', ls0', S0', a', b', r', h0', hp', hs', e1', e2', e3'⟩ => by
    obtain ⟨f1, f2, f3⟩ := HRk.det hw h0 h0'
    subst f1 f2 f3
    have hu := sort_uniq (HRk.ok hw h0).ok (by have := hw.1.2; omega) hp hp' (List.Perm.refl _) hs hs'
    injection hu with u1 u2
    injection u2 with u2 u3
    subst u1 u2 u3
    exact ⟨e1.trans e1'.symm, e2.trans e2'.symm, e3.trans e3'.symm⟩
theorem srtI_eq {xs : List Int} (h : xs.Pairwise (· ≤ ·)) : srtI xs = xs := by
  unfold srtI
  exact List.mergeSort_of_pairwise (h.imp (fun h => by simpa using h))
/-- The outcome at 1, 1, 2. -/
theorem huf112 {b : Tt} {ls : List Int} {S : Int} (h : HRk [1, 1, 2] 2 [b] ls S) : ls = [2, 2, 1] ∧ S = 6 := by
  have hw : Wok [1, 1, 2] := by
    refine ⟨by simp, fun j hj => ?_⟩
    simp only [List.length_cons, List.length_nil] at hj
    obtain rfl | rfl | rfl : j = 0 ∨ j = 1 ∨ j = 2 := by omega
    · exact ⟨by decide, by decide⟩
    · exact ⟨by decide, by decide⟩
    · exact ⟨by decide, by decide⟩
  have s1 : srtI ([0] ++ [1]) = [0, 1] := srtI_eq (by decide)
  have h1 : HRk [1, 1, 2] 1 [(2, [2]), (2, [0, 1])] [1, 1, 0] 2 :=
    ⟨[(1, [0]), (1, [1]), (2, [2])], [0, 0, 0], 0, (1, [0]), (1, [1]), [(2, [2])], ⟨rfl, rfl, rfl⟩, List.Perm.refl _, by decide, by rw [show ((1, [0]) : Tt).2 = [0] from rfl, show ((1, [1]) : Tt).2 = [1] from rfl, s1]; rfl, by rw [show ((1, [0]) : Tt).2 = [0] from rfl, show ((1, [1]) : Tt).2 = [1] from rfl, s1]; rfl, rfl⟩
  have s2 : srtI ([0, 1] ++ [2]) = [0, 1, 2] := srtI_eq (by decide)
  have h2 : HRk [1, 1, 2] 2 [(4, [0, 1, 2])] [2, 2, 1] 6 :=
    ⟨_, _, _, (2, [0, 1]), (2, [2]), [], h1, List.Perm.swap _ _ _, by decide, by rw [show ((2, [0, 1]) : Tt).2 = [0, 1] from rfl, show ((2, [2]) : Tt).2 = [2] from rfl, s2]; rfl, by rw [show ((2, [0, 1]) : Tt).2 = [0, 1] from rfl, show ((2, [2]) : Tt).2 = [2] from rfl, s2]; rfl, rfl⟩
  obtain ⟨_, e2, e3⟩ := HRk.det hw h h2
  exact ⟨e2, e3⟩
end Go.Proofs.Tb
