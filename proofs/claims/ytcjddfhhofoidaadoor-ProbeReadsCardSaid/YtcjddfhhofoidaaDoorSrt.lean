/- What the library's sort leaves of a row of elements of k cells: laws over any program. No statement of the program stands here. -/
import Derived.Shelf.SlSortCmp.WholeK
import Derived.Test.YtcjddfhhofoidaaDoorRow
import Derived.Test.YtcjddfhhofoidaaDoorDrw
set_option linter.unusedVariables false
set_option linter.unusedSimpArgs false
namespace Go.Proofs.Tb
open Go.RowKit

section
variable {α : Type}
theorem own_holds [Inhabited α] {w : World} {base g cap n k : Nat} {T : TypeId} {enc : α → List Value} {d : List α} (h : w.ownsRow base T k (.slice (some ⟨g, 0, none⟩) n cap) n (cel enc d)) (hd : d.length = n) (hk : ∀ x, x ∈ d → (enc x).length = k) :
    Go.Sort.HoldsK enc k w g 0 d.toArray := by
  intro j hj
  rw [Go.Sort.size_flatK] at hj
  have hj' : j < n * k := by simpa [hd] using hj
  have k0 : 0 < k := by
    rcases Nat.eq_zero_or_pos k with h | h
    · subst h; simp at hj'
    · exact h
  refine ⟨?_, by rw [Nat.zero_add]; exact h.frozenAt j⟩
  have hi : j / k < d.length := by rw [hd]; exact Nat.div_lt_of_lt_mul (by rw [Nat.mul_comm]; exact hj')
  have h1 := cel_get hk hi (Nat.mod_lt j k0)
  rw [Nat.div_add_mod' j k] at h1
  rw [Nat.zero_add, h.cellAt j hj', Go.Sort.get_flatK _ _ _ _ hj, h1]
  have hl := hk _ (List.getElem_mem hi)
  have hm := Nat.mod_lt j k0
  have e1 : d.toArray[j / k]! = d[j / k] := by simp [getElem!_pos, hi]
  rw [e1, List.getElem?_eq_getElem (by omega), getElem!_pos _ _ (by omega)]
  rfl
end

theorem swo_of {α : Type} {cf : α → α → Int} {val : α → Rat} (hcf : ∀ x y, cf x y < 0 ↔ val x < val y) : Go.Sort.SWO (ltOf cf) where
  irrefl x := by
    have := hcf x x
    unfold ltOf; simp; grind
  trans x y z h1 h2 := by
    have a1 := hcf x y
    have a2 := hcf y z
    have a3 := hcf x z
    unfold ltOf at *; simp at *; grind
  ntrans x y z h1 h2 := by
    have a1 := hcf x y
    have a2 := hcf y z
    have a3 := hcf x z
    unfold ltOf at *; simp at *; grind
section
variable {α : Type} [Inhabited α] {w : World} {g off m k : Nat} {T : TypeId} {cs : Array Value}
theorem sort_heap (enc : α → List Value) (dk : Array α) (os : Array Obj) (hg : g < w.heap.size) : (∀ i, i < w.heap.size → i ≠ g → (sortWorldK enc k w g off m dk os).heap[i]? = w.heap[i]?) ∧
    (w.heap[g]? = some (.cells cs T (0, 0)) → ∃ cs', (sortWorldK enc k w g off m dk os).heap[g]? = some (.cells cs' T (0, 0)) ∧ cs'.size = cs.size) := by
  have e : ∀ i, i < w.heap.size → (sortWorldK enc k w g off m dk os).heap[i]? = (w.heap.modify g (Go.Sort.onCells (Go.Sort.putCells id off (Go.Sort.flatK enc k dk))))[i]? := fun i hi => by
    unfold sortWorldK Go.Sort.putRowK Go.Sort.putRow Go.Sort.mapBlock
    rw [Go.Sort.heap_grow_old _ _ (by simpa [Go.Sort.ahead] using hi)]
    rfl
  refine ⟨fun i hi hn => ?_, fun hb => ?_⟩
  · rw [e i hi, Array.getElem?_modify, if_neg (Ne.symm hn)]
  · rw [e g hg, Array.getElem?_modify, if_pos rfl, hb]
    exact ⟨_, rfl, by simp [Go.Sort.putCells]⟩
theorem sort_held (enc : α → List Value) (dk : Array α) (os : Array Obj) (hb : w.heap[g]? = some (.cells cs T (0, 0))) : Held g cs.size T w (sortWorldK enc k w g off m dk os) := by
  have hg := block_lt hb
  obtain ⟨h1, h2⟩ := sort_heap (k := k) (off := off) (m := m) (cs := cs) (T := T) enc dk os hg
  exact ⟨⟨rfl, rfl, rfl, Go.Proofs.size_sortWorldK_c enc k w g off m dk os, fun i hi hn => h1 i hi fun e => hn (by rw [e])⟩, ⟨cs, hb, rfl⟩, h2 hb⟩
theorem cmpLays_of {P : Program} {f size : Nat} {enc : α → List Value} {cf : α → α → Int} (hb : w.heap[g]? = some (.cells cs T (0, 0)))
    (h : ∀ W, Held g cs.size T w W → ∀ x y, Calls P f #[.agg (enc x).toArray, .agg (enc y).toArray] W (Ret (fun v _ => v = .int .i64 (cf x y)) W)) : CmpLays P f #[] enc k cf g off size w := by
  intro m os dk _ x y
  rw [Array.append_empty]
  refine (Calls.drawn (h _ (sort_held enc dk os hb) x y)).mono ?_
  rintro e w' ⟨⟨v, he, hv, hbl⟩, hd⟩
  subst hv
  exact ⟨he, below_grow hbl (hd _ he)⟩
theorem sorted_val {cf : α → α → Int} {val : α → Rat} (hcf : ∀ x y, cf x y < 0 ↔ val x < val y) {d d' : Array α} (hp : Go.Sort.PermIn 0 d.size d d') (hs : Go.Sort.SortedIn (ltOf cf) 0 d.size d') :
    d'.size = d.size ∧ d'.toList.Perm d.toList ∧ (d'.toList.map val).Pairwise (· ≤ ·) := by
  obtain ⟨h1, _, h3⟩ := hp
  refine ⟨h1, ?_, ?_⟩
  · have e1 : d'.extract 0 d.size = d' := by rw [← h1]; exact Array.extract_size
    have e2 : d.extract 0 d.size = d := Array.extract_size
    rwa [e1, e2] at h3
  · rw [List.pairwise_map, List.pairwise_iff_getElem]
    intro i j hi hj hij
    have hj' : j < d'.size := by simpa using hj
    have hi' : i < d'.size := by simpa using hi
    have h4 := hs i j (Nat.zero_le _) hij (by omega)
    have h5 := hcf d'[j]! d'[i]!
    rw [getElem!_pos d' j hj', getElem!_pos d' i hi'] at h4 h5
    unfold ltOf at h4
    simp only [Array.getElem_toList]
    have h6 : ¬ val d'[j] < val d'[i] := fun h => by
      have := h5.2 h
      simp at h4
      omega
    grind
theorem sorted_med {cf : α → α → Int} {val : α → Rat} (hcf : ∀ x y, cf x y < 0 ↔ val x < val y) {d d' : Array α} (hp : Go.Sort.PermIn 0 d.size d d') (hs : Go.Sort.SortedIn (ltOf cf) 0 d.size d') (h0 : 0 < d.size) :
    (val d'[(d.size - 1) / 2]! + val d'[d.size / 2]!) / 2 = med (d.toList.map val) := by
  obtain ⟨h1, h2, h3⟩ := sorted_val hcf hp hs
  have h4 := med_of (h2.map val) h3
  rw [h4]
  have e : ∀ i, i < d.size → (d'.toList.map val).getD i 0 = val d'[i]! := fun i hi => by
    have hi' : i < d'.size := by omega
    rw [getElem!_pos d' i hi']
    simp [List.getD, hi']
  rw [List.length_map, Array.length_toList, e _ (by omega), e _ (by omega)]
end

section
open Go.Shelf
/-- The library's sort on a row that lies at g from o on: its two middle elements behind it. -/
theorem sort_mid {P : Program} {ρ : Ren} {α : Type} [Inhabited α] (L : SlLaysF0.n6 P ρ) (k : Nat) (aE : ∀ w, (isAgg (ρ.t 24)).run P w = .ok true w) (zE : ∀ w, (Go.sizeOf (ρ.t 24)).run P w = .ok k w) (enc : α → List Value) (hk : ∀ x, (enc x).length = k)
    (h1 : ∀ x, ∀ v ∈ enc x, v.oneCell' = true) (cf : α → α → Int) (val : α → Rat) (hcf : ∀ x y, cf x y < 0 ↔ val x < val y) (f : Nat) (eg : ∀ args w, (callFunc f args).run P w = .ok (.enter f args) w)
    (g o cap : Nat) (dl : List α) (w : World) (T : TypeId) (cs : Array Value) (hb : w.heap[g]? = some (.cells cs T (0, 0))) (hH : Go.Sort.HoldsK enc k w g o dl.toArray)
    (hcmp : ∀ W, Held g cs.size T w W → ∀ x y, Calls P f #[.agg (enc x).toArray, .agg (enc y).toArray] W (Ret (fun v _ => v = .int .i64 (cf x y)) W)) (h0 : 0 < dl.length) (hsz : dl.length < 4611686018427387904) :
    Calls P (ρ.f 6) #[.slice (some ⟨g, o, none⟩) dl.length cap, .func (.func f) #[] #[]] w (fun e w' => e = .returned (.tuple #[]) ∧ Held g cs.size T w w' ∧
      ∃ x y : α, (∀ c, c < k → w'.cell? ⟨g, o + (dl.length - 1) / 2 * k + c, none⟩ = some (enc x)[c]!) ∧ (∀ c, c < k → w'.cell? ⟨g, o + dl.length / 2 * k + c, none⟩ = some (enc y)[c]!) ∧ (val x + val y) / 2 = med (dl.map val)) := by
  have hlt := block_lt hb
  have h := AnyQ.slices_SortFunc L k aE zE enc hk h1 cf (swo_of hcf) f #[] g o cap dl.toArray w eg (cmpLays_of hb hcmp) hH hlt (by simpa using hsz)
  rw [List.size_toArray] at h
  refine h.mono ?_
  rintro e w' ⟨he, d', n, os, hp, hs, rfl⟩
  have hs1 : d'.size = dl.toArray.size := hp.1
  have hs2 : d'.size = dl.length := by simpa using hs1
  have hH' := holdsK_sortWorldK_c enc k w g o dl.toArray d' n os hH hlt hs1
  refine ⟨he, sort_held enc d' os hb, d'[(dl.length - 1) / 2]!, d'[dl.length / 2]!, fun c hc => (hH'.cell (by omega) hc).1, fun c hc => (hH'.cell (by omega) hc).1, ?_⟩
  have hm := sorted_med hcf (d := dl.toArray) (d' := d') (by simpa using hp) (by simpa using hs) (by simpa using h0)
  simpa using hm
end
end Go.Proofs.Tb
