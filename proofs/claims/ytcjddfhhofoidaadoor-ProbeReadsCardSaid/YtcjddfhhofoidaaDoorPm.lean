/- The block of plans in memory: its cells told by a function. No call stands here. -/
import Derived.Test.YtcjddfhhofoidaaDoorBsv
set_option linter.unusedVariables false
set_option linter.unusedSimpArgs false
namespace Go.Proofs.Tb
open Go.RowKit

abbrev TPL : TypeId := 95
/-- Block g holds the 3074 cells that f tells. -/
def PB (w : World) (g : Nat) (f : Nat → Value) : Prop := ∃ cs : Array Value, w.heap[g]? = some (.cells cs TPL (0, 0)) ∧ cs.size = 3074 ∧ ∀ j, j < 3074 → cs[j]? = some (f j)
section
variable {w w' : World} {g : Nat} {f f' : Nat → Value}
theorem PB.lt (h : PB w g f) : g < w.heap.size := by
  obtain ⟨cs, h1, _, _⟩ := h
  exact block_lt h1
theorem PB.cell (h : PB w g f) {j : Nat} (hj : j < 3074) : w.cell? ⟨g, j, none⟩ = some (f j) := by
  obtain ⟨cs, h1, h2, h3⟩ := h
  rw [cell_of_row w g j cs TPL (0, 0) h1]
  exact h3 j hj
theorem PB.free (h : PB w g f) (j : Nat) : w.frozen? ⟨g, j, none⟩ = false := by
  obtain ⟨cs, h1, _, _⟩ := h
  exact Blk.free h1 j
theorem PB.below (h : PB w g f) (hb : Below w.heap.size w w') : PB w' g f := by
  obtain ⟨cs, h1, h2⟩ := h
  exact ⟨cs, (hb.block g (block_lt h1)).trans h1, h2⟩
theorem PB.belowB {B : Nat} (h : PB w g f) (hB : g < B) (hb : Below B w w') : PB w' g f := by
  obtain ⟨cs, h1, h2⟩ := h
  exact ⟨cs, (hb.block g hB).trans h1, h2⟩
theorem PB.congr (h : PB w g f) (he : ∀ j, j < 3074 → f j = f' j) : PB w g f' := by
  obtain ⟨cs, h1, h2, h3⟩ := h
  exact ⟨cs, h1, h2, fun j hj => by rw [h3 j hj, he j hj]⟩
theorem PB.set_ (h : PB w g f) (j : Nat) (v : Value) (he : ∀ i, i < 3074 → f' i = if i = j then v else f i) : PB (w.setCell ⟨g, j, none⟩ v) g f' := by
  obtain ⟨cs, h1, h2, h3⟩ := h
  refine ⟨cs.setIfInBounds j v, Blk.set_ h1 j v, by simp [h2], fun i hi => ?_⟩
  rw [he i hi, Array.getElem?_setIfInBounds]
  by_cases hij : j = i
  · subst hij; simp [h2, hi]
  · rw [if_neg hij, if_neg (fun e => hij e.symm), h3 i hi]
theorem PB.blk (h : PB w g f) {g' : Nat} {cs : Array Value} {T : TypeId} (hb : Blk w g' T cs) (hT : T ≠ TPL) : g' ≠ g := by
  rintro rfl
  obtain ⟨ds, h1, _, _⟩ := h
  unfold Blk at hb
  rw [h1] at hb
  injection hb with hb
  injection hb with _ e _
  exact hT e.symm
end
theorem OwI.far {base : Nat} {w : World} {v : Value} {xs : List Int} (h : OwI base w v xs) {p : Addr} (hp : p.block < base) (u : Value) : OwI base (w.setCell p u) v xs := by
  refine ⟨h.1, ?_⟩
  rcases h.2 with h | ⟨g, cap, cur, hv, h1, h2, h3⟩
  · exact Or.inl h
  · exact Or.inr ⟨g, cap, cur, hv, h1, (Below.heap_setCell w p u g (by omega)).trans h2, h3⟩
theorem OwI.il2 {base : Nat} {w : World} {v : Value} {xs : List Int} {n : Nat} (h : OwI base w v xs) (hn : xs.length = n) : ∃ A c, v = .slice A n c ∧ Il w A n c xs := by
  subst hn; exact h.il
/-- The cells while the sets below s are done, and s itself is under way: its weight W, cost C and test T so far. -/
def plG (tv sv : Value) (hw hc ht : Nat → Int) (s : Nat) (W C T : Int) (j : Nat) : Value :=
  if j = 0 then tv else if j = 1 then sv
  else if j < 1026 then .int .i64 (if j - 2 < s then hw (j - 2) else if j - 2 = s then W else 0)
  else if j < 2050 then .int .i64 (if j - 1026 < s then hc (j - 1026) else if j - 1026 = s then C else 0)
  else .int .i64 (if j - 2050 < s then ht (j - 2050) else if j - 2050 = s then T else 0)
section
variable {tv sv sv' : Value} {hw hc ht : Nat → Int} {s : Nat} {W C T : Int}
theorem plG_sv (i : Nat) : plG tv sv' hw hc ht s W C T i = if i = 1 then sv' else plG tv sv hw hc ht s W C T i := by
  unfold plG
  by_cases h0 : i = 0
  · subst h0; simp
  · by_cases h1 : i = 1
    · simp [h1]
    · simp [h0, h1]
theorem plG_W (hs : s < 1024) (W' : Int) (i : Nat) : plG tv sv hw hc ht s W' C T i = if i = 2 + s then .int .i64 W' else plG tv sv hw hc ht s W C T i := by
  unfold plG
  by_cases h0 : i = 0
  · subst h0; rw [if_neg (show ¬ (0 = 2 + s) by omega), if_pos rfl, if_pos rfl]
  by_cases h1 : i = 1
  · subst h1; rw [if_neg (show ¬ (1 = 2 + s) by omega)]; rfl
  by_cases h2 : i < 1026
  · by_cases h : i = 2 + s
    · rw [if_pos h, if_neg h0, if_neg h1, if_pos h2, if_neg (show ¬ (i - 2 < s) by omega), if_pos (show i - 2 = s by omega)]
    · have e : ¬ (i - 2 = s) := by omega
      simp only [h, h0, h1, h2, e, if_true, if_false]
  · have h : ¬ (i = 2 + s) := by omega
    simp only [h, h0, h1, h2, if_false]
theorem plG_C (hs : s < 1024) (C' : Int) (i : Nat) : plG tv sv hw hc ht s W C' T i = if i = 1026 + s then .int .i64 C' else plG tv sv hw hc ht s W C T i := by
  unfold plG
  by_cases h0 : i = 0
  · subst h0; rw [if_neg (show ¬ (0 = 1026 + s) by omega), if_pos rfl, if_pos rfl]
  by_cases h1 : i = 1
  · subst h1; rw [if_neg (show ¬ (1 = 1026 + s) by omega)]; rfl
  by_cases h2 : i < 1026
  · have h : ¬ (i = 1026 + s) := by omega
    simp only [h, h0, h1, h2, if_true, if_false]
  by_cases h3 : i < 2050
  · by_cases h : i = 1026 + s
    · rw [if_pos h, if_neg h0, if_neg h1, if_neg h2, if_pos h3, if_neg (show ¬ (i - 1026 < s) by omega), if_pos (show i - 1026 = s by omega)]
    · have e : ¬ (i - 1026 = s) := by omega
      simp only [h, h0, h1, h2, h3, e, if_true, if_false]
  · have h : ¬ (i = 1026 + s) := by omega
    simp only [h, h0, h1, h2, h3, if_false]
theorem plG_T (hs : s < 1024) (T' : Int) (i : Nat) : plG tv sv hw hc ht s W C T' i = if i = 2050 + s then .int .i64 T' else plG tv sv hw hc ht s W C T i := by
  unfold plG
  by_cases h0 : i = 0
  · subst h0; rw [if_neg (show ¬ (0 = 2050 + s) by omega), if_pos rfl, if_pos rfl]
  by_cases h1 : i = 1
  · subst h1; rw [if_neg (show ¬ (1 = 2050 + s) by omega)]; rfl
  by_cases h2 : i < 1026
  · have h : ¬ (i = 2050 + s) := by omega
    simp only [h, h0, h1, h2, if_true, if_false]
  by_cases h3 : i < 2050
  · have h : ¬ (i = 2050 + s) := by omega
    simp only [h, h0, h1, h2, h3, if_true, if_false]
  · by_cases h : i = 2050 + s
    · rw [if_pos h, if_neg h0, if_neg h1, if_neg h2, if_neg h3, if_neg (show ¬ (i - 2050 < s) by omega), if_pos (show i - 2050 = s by omega)]
    · have e : ¬ (i - 2050 = s) := by omega
      simp only [h, h0, h1, h2, h3, e, if_false]
theorem plG_next (i : Nat) (h1 : hw s = W) (h2 : hc s = C) (h3 : ht s = T) : plG tv sv hw hc ht s W C T i = plG tv sv hw hc ht (s + 1) 0 0 0 i := by
  have key : ∀ (k : Nat) (X : Int) (h : Nat → Int), h s = X → (if k < s then h k else if k = s then X else 0) = (if k < s + 1 then h k else if k = s + 1 then 0 else 0) := by
    intro k X h hX
    rcases Nat.lt_trichotomy k s with a | a | a
    · rw [if_pos a, if_pos (by omega)]
    · subst a; rw [if_neg (by omega), if_pos rfl, if_pos (by omega), hX]
    · rw [if_neg (by omega), if_neg (by omega), if_neg (by omega)]; split <;> rfl
  unfold plG
  rw [key _ W hw h1, key _ C hc h2, key _ T ht h3]
theorem plG_0 : plG tv sv hw hc ht s W C T 0 = tv := rfl
theorem plG_1 : plG tv sv hw hc ht s W C T 1 = sv := rfl
theorem plG_w {x : Nat} (hx : x < 1024) : plG tv sv hw hc ht s W C T (2 + x) = .int .i64 (if x < s then hw x else if x = s then W else 0) := by
  unfold plG
  rw [if_neg (by omega), if_neg (by omega), if_pos (by omega), show 2 + x - 2 = x by omega]
theorem plG_c {x : Nat} (hx : x < 1024) : plG tv sv hw hc ht s W C T (1026 + x) = .int .i64 (if x < s then hc x else if x = s then C else 0) := by
  unfold plG
  rw [if_neg (by omega), if_neg (by omega), if_neg (by omega), if_pos (by omega), show 1026 + x - 1026 = x by omega]
theorem plG_t {x : Nat} : plG tv sv hw hc ht s W C T (2050 + x) = .int .i64 (if x < s then ht x else if x = s then T else 0) := by
  unfold plG
  rw [if_neg (by omega), if_neg (by omega), if_neg (by omega), if_neg (by omega), show 2050 + x - 2050 = x by omega]
end
end Go.Proofs.Tb
