/- Contract of the disk's Loose. -/
import Derived.Test.YtfljnfdeboibhaaRoi
set_option linter.unusedVariables false
set_option linter.unusedSimpArgs false
namespace Go.Proofs.Tb
open Go.Maps Go.RowKit Go.Lib
attribute [local go_sem] cell_set_same neqMapL

section
variable {w : World} {d : Nat} {g : Dkg} {cur : List (List Nat)} {bl : List (List (List Nat))} {down : Bool} {left : Nat}
theorem size_keys {m n : Nat} {D : DataW Value} (hm : w.ownsMap Try.prog TIN RH m n D) {L : List Nat} (hL : L.Pairwise (· < ·)) (hmem : ∀ x : Int, (∃ k ∈ L, x = ((k : Nat) : Int)) ↔ Maps.has D (.int .i64 x) = true) : Maps.size D = L.length := by
  have h1 := (keys_perm hm hL hmem).length_eq
  rw [List.length_map] at h1
  obtain ⟨es, hD, _⟩ := hm.entries lawL
  subst hD
  rw [h1]
  simp [Maps.size, intKeys]
set_option maxHeartbeats 3200000 in
set_option maxRecDepth 100000 in
theorem rloose_di (h : DI w d g cur bl down left) :
    Calls Try.prog 43 #[.pointer (some ⟨d, 0, none⟩)] w (Ret (fun z _ => z = .int .i64 ((looB g cur.length).length : Int)) w) := by
  have hsz := size_keys h.mp (looB_up g cur.length) h.loose
  have hln := fun w' (hx : Ext w w') ty => (h.ext hx).mp.len Try.underlying67 ty
  rw [hsz] at hln
  have HK := Lib.hid h.dk
  have HLN := Lib.hid hln
  obtain ⟨q, hq⟩ : ∃ q, (looB g cur.length).length = q := ⟨_, rfl⟩
  rw [hq] at HLN ⊢
  clear h hsz hln hq
  go_enter Try.func43, Try.ntmps43
  go_wp2_with fail
  refine (rmade_any d _ _ _ left w HK.out).mono ?_
  rintro e w1 ⟨z1, rfl, rfl, b1⟩
  have ks := (HK.out.below b1).cells
  simp only [cellsAre, Nat.zero_add, Nat.reduceAdd, and_true] at ks
  have hl := HLN.out w1 b1
  have X1 := Lib.hid (show Ext w w1 from b1)
  clear b1
  go_wp2
  go_returns
  exact ⟨_, rfl, rfl, X1.out⟩
end
/-- How many blocks have more than one content. -/
def looC (bl : List (List (List Nat))) : Nat := ((List.range bl.length).filter fun k => decide (2 ≤ (bl.getD k []).length)).length
theorem rloose_ok {F : Nat → Prop} {w : World} {d : Nat} {bl : List (List (List Nat))} {down : Bool} {left : Nat} (h : DW F w d bl down left) :
    Calls Try.prog 43 #[.pointer (some ⟨d, 0, none⟩)] w (Ret (fun z _ => z = .int .i64 (looC bl : Int)) w) := by
  obtain ⟨g, h1, h2, _⟩ := h
  have e : (looB g (bl.map fun l => l.getLastD z64).length).length = looC bl := by
    unfold looB looC
    rw [List.length_map]
    congr 1
    exact List.filter_congr fun k hk => h2 k (List.mem_range.1 hk)
  have := rloose_di h1
  rw [e] at this
  exact this
theorem looC_zero {bl : List (List (List Nat))} (h : ∀ k, (bl.getD k []).length ≤ 1) : looC bl = 0 := by
  unfold looC
  rw [List.length_eq_zero_iff, List.filter_eq_nil_iff]
  intro k _
  have := h k
  simp only [decide_eq_true_eq]; omega
end Go.Proofs.Tb
