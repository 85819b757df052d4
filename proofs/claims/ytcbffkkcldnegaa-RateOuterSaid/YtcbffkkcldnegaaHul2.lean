/- Plain law: the best line of the corners of both hulls is the best line of all readings. No program stands here. -/
import Derived.Test.YtcbffkkcldnegaaHul
import Derived.Test.YtcbffkkcldnegaaRate3
set_option linter.unusedVariables false
set_option linter.unusedSimpArgs false
namespace Go.Proofs.Tb

/-- Whatever point is not in the list lies beyond a side of it. -/
def SideL (t y : Nat → Int) (n : Nat) (L : List Nat) : Prop := ∀ j, j < n → j ∉ L → ∃ i q, i ∈ L ∧ q ∈ L ∧ i < j ∧ j < q ∧ q < n ∧ trn t y i j q ≤ 0
theorem Chn.sideL {t y : Nat → Int} {b n : Nat} {l : List Nat} (h : Chn t y (b :: l)) (hb : b + 1 = n) : SideL t y n (b :: l).reverse := fun j hj hn => by
  obtain ⟨i, q, h1, h2, h3, h4, h5⟩ := h.side j (by omega) (fun hm => hn (List.mem_reverse.2 hm))
  refine ⟨i, q, List.mem_reverse.2 h1, List.mem_reverse.2 h2, h3, h4, ?_, h5⟩
  rcases List.mem_cons.1 h2 with g | g
  · omega
  · have := h.lt q g; omega
theorem side_up {ti tj tq yi yj yq s h E : Rat} (h1 : ti < tj) (h2 : tj < tq) (g : (tj - ti) * (yq - yi) - (tq - ti) * (yj - yi) ≤ 0) (a : -E ≤ yi - (s * ti + h)) (b : -E ≤ yq - (s * tq + h)) : -E ≤ yj - (s * tj + h) := by
  have p1 : 0 ≤ (yi - (s * ti + h) + E) * (tq - tj) := Rat.mul_nonneg (by grind) (by grind)
  have p2 : 0 ≤ (yq - (s * tq + h) + E) * (tj - ti) := Rat.mul_nonneg (by grind) (by grind)
  rcases Rat.le_total (a := -E) (b := yj - (s * tj + h)) with k | k
  · exact k
  · by_cases he : yj - (s * tj + h) = -E
    · rw [he]; exact Rat.le_refl
    · exfalso
      have p3 : 0 < (-E - (yj - (s * tj + h))) * (tq - ti) := Rat.mul_pos (by grind) (by grind)
      grind
theorem trn_cast (t y : Nat → Int) (i j q : Nat) : ((trn t y i j q : Int) : Rat) = ((t j : Rat) - (t i : Rat)) * ((y q : Rat) - (y i : Rat)) - ((t q : Rat) - (t i : Rat)) * ((y j : Rat) - (y i : Rat)) := by
  unfold trn; simp only [Rat.intCast_sub, Rat.intCast_mul]
theorem IsLeast.outer {ti yi : Nat → Int} {n m : Nat} {s h E : Rat} {L H : List Nat} {f : Nat → Nat} (mono : ∀ i j, i < j → j < n → ti i < ti j) (hL : SideL ti yi n L) (hH : SideL ti (fun i => -yi i) n H)
    (fm : ∀ a b, a < b → b < m → f a < f b) (fn : ∀ a, a < m → f a < n) (fL : ∀ j, j ∈ L → ∃ a, a < m ∧ f a = j) (fH : ∀ j, j ∈ H → ∃ a, a < m ∧ f a = j)
    (k : IsLeast m (fun a => (ti (f a) : Rat)) (fun a => (yi (f a) : Rat)) s h E) : IsLeast n (fun a => (ti a : Rat)) (fun a => (yi a : Rat)) s h E := by
  have mq : ∀ i j, i < j → j < n → (ti i : Rat) < (ti j : Rat) := fun i j h1 h2 => Rat.intCast_lt_intCast.2 (mono i j h1 h2)
  have hin : ∀ a, a < m → -E ≤ (yi (f a) : Rat) - (s * (ti (f a) : Rat) + h) ∧ (yi (f a) : Rat) - (s * (ti (f a) : Rat) + h) ≤ E := fun a ha => k.le a ha
  refine ⟨fun j hj => ⟨?_, ?_⟩, ?_⟩
  · show -E ≤ (yi j : Rat) - (s * (ti j : Rat) + h)
    by_cases hm : j ∈ L
    · obtain ⟨a, ha, rfl⟩ := fL j hm
      exact (hin a ha).1
    · obtain ⟨i, q, h1, h2, h3, h4, h5, h6⟩ := hL j hj hm
      obtain ⟨a, ha, rfl⟩ := fL i h1
      obtain ⟨b, hb, rfl⟩ := fL q h2
      have g : ((trn ti yi (f a) j (f b) : Int) : Rat) ≤ ((0 : Int) : Rat) := Rat.intCast_le_intCast.2 h6
      rw [trn_cast] at g
      exact side_up (mq _ _ h3 hj) (mq _ _ h4 h5) g (hin a ha).1 (hin b hb).1
  · show (yi j : Rat) - (s * (ti j : Rat) + h) ≤ E
    by_cases hm : j ∈ H
    · obtain ⟨a, ha, rfl⟩ := fH j hm
      exact (hin a ha).2
    · obtain ⟨i, q, h1, h2, h3, h4, h5, h6⟩ := hH j hj hm
      obtain ⟨a, ha, rfl⟩ := fH i h1
      obtain ⟨b, hb, rfl⟩ := fH q h2
      have g : ((trn ti (fun i => -yi i) (f a) j (f b) : Int) : Rat) ≤ ((0 : Int) : Rat) := Rat.intCast_le_intCast.2 h6
      rw [trn_cast] at g
      simp only [Rat.intCast_neg] at g
      have := side_up (s := -s) (h := -h) (E := E) (mq _ _ h3 hj) (mq _ _ h4 h5) g (by have := (hin a ha).2; grind) (by have := (hin b hb).2; grind)
      grind
  · rcases k.alt with h0 | ⟨a, b, c, hab, hbc, hcn, eb, ec, ea⟩
    · exact Or.inl h0
    · exact Or.inr ⟨f a, f b, f c, fm a b hab (by omega), fm b c hbc hcn, fn c hcn, eb, ec, ea⟩

/-- The numbers below n that p picks, and the readings at them. -/
def pickI (p : Nat → Bool) (n : Nat) : List Nat := (List.range n).filter p
def pickR (rs : List Rdg) (p : Nat → Bool) (n : Nat) : List Rdg := (pickI p n).map fun i => rs.getD i (0, 0)
theorem pickI_sorted (p : Nat → Bool) (n : Nat) : (pickI p n).Pairwise (· < ·) := List.Pairwise.filter _ List.pairwise_lt_range
theorem mem_pickI {p : Nat → Bool} {n i : Nat} : i ∈ pickI p n ↔ i < n ∧ p i = true := by unfold pickI; rw [List.mem_filter, List.mem_range]
theorem pickI_get {p : Nat → Bool} {n a : Nat} (ha : a < (pickI p n).length) : (pickI p n).getD a 0 < n := by
  have : (pickI p n)[a] ∈ pickI p n := List.getElem_mem ha
  have := (mem_pickI.1 this).1
  simpa [List.getD, ha] using this
theorem pickI_mono {p : Nat → Bool} {n a b : Nat} (hab : a < b) (hb : b < (pickI p n).length) : (pickI p n).getD a 0 < (pickI p n).getD b 0 := by
  have := List.pairwise_iff_getElem.1 (pickI_sorted p n) a b (by omega) hb hab
  have ha : a < (pickI p n).length := by omega
  simpa [List.getD, ha, hb] using this
theorem pickR_len (rs : List Rdg) (p : Nat → Bool) (n : Nat) : (pickR rs p n).length = (pickI p n).length := by simp [pickR]
theorem pickR_get (rs : List Rdg) (p : Nat → Bool) (n a : Nat) (ha : a < (pickI p n).length) : (pickR rs p n).getD a (0, 0) = rs.getD ((pickI p n).getD a 0) (0, 0) := by
  simp [pickR, List.getD, ha]
theorem pickR_succ (rs : List Rdg) (p : Nat → Bool) (n : Nat) : pickR rs p (n + 1) = if p n = true then pickR rs p n ++ [rs.getD n (0, 0)] else pickR rs p n := by
  unfold pickR pickI
  rw [List.range_succ, List.filter_append, List.map_append]
  by_cases h : p n = true
  · simp [h]
  · simp [h]
theorem pickI_le (p : Nat → Bool) (n : Nat) : (pickI p n).length ≤ n := by
  unfold pickI
  have := List.length_filter_le p (List.range n)
  rw [List.length_range] at this
  exact this
theorem pickI_two {p : Nat → Bool} {n : Nat} (hn : 2 ≤ n) (h0 : p 0 = true) (h1 : p (n - 1) = true) : 2 ≤ (pickI p n).length := by
  have m0 : 0 ∈ pickI p n := mem_pickI.2 ⟨by omega, h0⟩
  have m1 : n - 1 ∈ pickI p n := mem_pickI.2 ⟨by omega, h1⟩
  obtain ⟨a, ha, ea⟩ := List.getElem_of_mem m0
  obtain ⟨b, hb, eb⟩ := List.getElem_of_mem m1
  have : a ≠ b := fun e => by subst e; omega
  omega
theorem Vld.pick {rs : List Rdg} (hv : Vld rs) {p : Nat → Bool} (h0 : p 0 = true) (h1 : p (rs.length - 1) = true) : Vld (pickR rs p rs.length) := by
  have h2 := pickI_two hv.1 h0 h1
  have hle := pickI_le p rs.length
  refine ⟨by rw [pickR_len]; exact h2, by rw [pickR_len]; have := hv.2.1; omega, fun k hk => ?_⟩
  rw [pickR_len] at hk
  have hg := pickI_get hk
  have hok := hv.2.2 _ hg
  unfold okAt at hok ⊢
  rw [pickR_get _ _ _ _ hk]
  refine ⟨hok.1, hok.2.1, hok.2.2.1, hok.2.2.2.1, fun hk0 => ?_⟩
  rw [pickR_get _ _ _ _ (by omega)]
  exact hv.mono_tm (pickI_mono (show k - 1 < k by omega) hk) hg
theorem SmallR.pick {rs : List Rdg} (hs : SmallR rs) (p : Nat → Bool) : SmallR (pickR rs p rs.length) := fun k hk => by
  rw [pickR_len] at hk
  have := hs _ (pickI_get hk)
  unfold tm ofs at this ⊢
  rw [pickR_get _ _ _ _ hk]
  exact this
theorem IsLeast.pick {rs : List Rdg} {s h E : Rat} {L H : List Nat} {p : Nat → Bool} (hv : Vld rs) (hL : SideL (tm rs) (ofs rs) rs.length L) (hH : SideL (tm rs) (fun i => -ofs rs i) rs.length H)
    (pL : ∀ j, j ∈ L → j < rs.length ∧ p j = true) (pH : ∀ j, j ∈ H → j < rs.length ∧ p j = true)
    (k : IsLeast (pickR rs p rs.length).length (tq (pickR rs p rs.length)) (yq (pickR rs p rs.length)) s h E) : IsLeast rs.length (tq rs) (yq rs) s h E := by
  rw [pickR_len] at k
  have fx : ∀ j, j < rs.length ∧ p j = true → ∃ a, a < (pickI p rs.length).length ∧ (pickI p rs.length).getD a 0 = j := fun j hj => by
    obtain ⟨a, ha, ea⟩ := List.getElem_of_mem (mem_pickI.2 hj)
    exact ⟨a, ha, by simpa [List.getD, ha] using ea⟩
  refine IsLeast.outer (f := fun a => (pickI p rs.length).getD a 0) (fun i j h1 h2 => hv.mono_tm h1 h2) hL hH (fun a b h1 h2 => pickI_mono h1 h2) (fun a ha => pickI_get ha) (fun j hj => fx j (pL j hj)) (fun j hj => fx j (pH j hj)) ?_
  have e1 : ∀ a, a < (pickI p rs.length).length → tq (pickR rs p rs.length) a = (tm rs ((pickI p rs.length).getD a 0) : Rat) := fun a ha => by unfold tq tm; rw [pickR_get _ _ _ _ ha]
  have e2 : ∀ a, a < (pickI p rs.length).length → yq (pickR rs p rs.length) a = (ofs rs ((pickI p rs.length).getD a 0) : Rat) := fun a ha => by unfold yq ofs; rw [pickR_get _ _ _ _ ha]
  have e : ∀ a, a < (pickI p rs.length).length → er (fun a => (tm rs ((pickI p rs.length).getD a 0) : Rat)) (fun a => (ofs rs ((pickI p rs.length).getD a 0) : Rat)) s h a = er (tq (pickR rs p rs.length)) (yq (pickR rs p rs.length)) s h a := fun a ha => by
    unfold er; rw [e1 a ha, e2 a ha]
  refine ⟨fun i hi => by rw [e i hi]; exact k.le i hi, ?_⟩
  rcases k.alt with h0 | ⟨a, b, c, hab, hbc, hcn, eb, ec, ea⟩
  · exact Or.inl h0
  · exact Or.inr ⟨a, b, c, hab, hbc, hcn, by rw [e a (by omega), e b (by omega)]; exact eb, by rw [e a (by omega), e c hcn]; exact ec, by rw [e a (by omega)]; exact ea⟩
end Go.Proofs.Tb
