/- Rows of elements of k cells that a call owns: laws over any program. No statement of the program stands here. -/
import Derived.Test.YtfljnfdeboibhaaMed
set_option linter.unusedVariables false
set_option linter.unusedSimpArgs false
namespace Go.Proofs.Tb
open Go.RowKit

section
variable {α : Type}
/-- The cells of a row of elements. -/
def cel (enc : α → List Value) (d : List α) : List Value := d.flatMap enc
theorem cel_nil (enc : α → List Value) : cel enc [] = [] := rfl
theorem cel_app (enc : α → List Value) (a b : List α) : cel enc (a ++ b) = cel enc a ++ cel enc b := by unfold cel; rw [List.flatMap_append]
theorem cel_one (enc : α → List Value) (x : α) : cel enc [x] = enc x := by simp [cel]
theorem cel_map {β : Type} (enc : α → List Value) (f : β → α) (d : List β) : cel enc (d.map f) = cel (fun x => enc (f x)) d := by
  induction d with
  | nil => rfl
  | cons x d ih =>
    simp only [cel, List.map_cons, List.flatMap_cons] at *
    rw [ih]
theorem cel_len {enc : α → List Value} {k : Nat} {d : List α} (hk : ∀ x, x ∈ d → (enc x).length = k) : (cel enc d).length = d.length * k := by
  induction d with
  | nil => simp [cel]
  | cons x d ih =>
    have h1 := hk x (List.mem_cons_self ..)
    have h2 := ih fun y hy => hk y (List.mem_cons_of_mem _ hy)
    simp only [cel, List.flatMap_cons, List.length_append, List.length_cons] at *
    rw [h2, Nat.add_mul]; omega
theorem cel_get {enc : α → List Value} {k : Nat} {d : List α} (hk : ∀ x, x ∈ d → (enc x).length = k) {i c : Nat} (hi : i < d.length) (hc : c < k) : (cel enc d)[i * k + c]? = (enc d[i])[c]? := by
  induction d generalizing i with
  | nil => simp at hi
  | cons x d ih =>
    have h1 := hk x (List.mem_cons_self ..)
    have e : cel enc (x :: d) = enc x ++ cel enc d := rfl
    rw [e]
    cases i with
    | zero =>
      rw [Nat.zero_mul, Nat.zero_add, List.getElem?_append_left (by omega)]
      rfl
    | succ i =>
      rw [List.getElem?_append_right (by rw [h1, Nat.add_mul]; omega), h1, show (i + 1) * k + c - k = i * k + c by rw [Nat.add_mul]; omega]
      exact ih (fun y hy => hk y (List.mem_cons_of_mem _ hy)) (by simpa using hi)
end
theorem own_geE {base : Nat} {w : World} {e : TypeId} {size n : Nat} {v : Value} {xs : List Value} (h : w.ownsRow base e size v n xs) : ∀ k, v.ownBlock = some k → base ≤ k := by
  intro k hk
  rcases h.2 with ⟨rfl, _⟩ | ⟨g, cap, cur, rfl, hb, _⟩
  · simp [Value.ownBlock] at hk
  · simp [Value.ownBlock] at hk
    omega
/-- append of m elements of k cells, which lie somewhere, to a row that the call owns. -/
theorem wp_appE {P : Program} {ops : Array Oper} {rest : List Oper} {o : Oper} {a : Act} {Q : Exit → Act → World → Prop} {wr : World} (TS TE : TypeId) (z : Value) (k bytes : Nat)
    (hinf : (P.info? TE).map (fun i => (i.zero, i.size, i.bytes)) = some (some z, k, bytes)) (hund : P.underlying TS = some (.slice TE)) (hzs : z.cells.size = k) (h0 : 0 < k) (hby : bytes ≤ 1000)
    (hgd : o.guard = none) (s x : Operand) (ho : o.op = .call { callee := .builtin .append, args := #[s, x], argTypes := #[TS, TS] }) (base : Nat) (v : Value) (n : Nat) (xs : List Value) (hs : a.eval s = v) (hown : wr.ownsRow base TE k v n xs)
    (ad : Addr) (m c : Nat) (news : List Value) (hx : a.eval x = .slice (some ad) m c) (hl : news.length = m * k) (hc : ∀ j u, news[j]? = some u → wr.cell? (ad.add j) = some u) (h1 : ∀ u, u ∈ news → u.oneCell' = true)
    (hn : n ≤ 1000000000) (hm : m ≤ 1000000000) (hbase : base ≤ wr.heap.size)
    (h : ∀ v' w', w'.ownsRow base TE k v' (n + m) (xs ++ news) → Below base wr w' → wr.grownBy w' v.ownBlock → wpList P ops Q rest (a.put o.dst v') w') : wpList P ops Q (o :: rest) a wr := by
  obtain ⟨i0, hi, hz0, hz1, hz2⟩ := info_parts hinf
  refine wpList_append_own _ hgd s x TS ho base TE i0 z k bytes hund hi hz0 hz1 hz2 hzs h0 v n xs hs hown ad m c news hx hl hc h1 (by unfold maxLen; omega) ?_ hbase ?_
  · have : (n + m) * bytes ≤ 2000000000 * 1000 := Nat.mul_le_mul (by omega) hby
    omega
  · intro v' w' h2 h3 _
    exact h v' w' h2 ((Below.refl _ _).grown h3 hbase (own_geE hown)) h3
/-- The cells of a new block. -/
theorem cell_new (w : World) (cs : List Value) (t : TypeId) : ∀ j u, cs[j]? = some u → (w.alloc (.cells cs.toArray t)).cell? ((⟨w.heap.size, 0, none⟩ : Addr).add j) = some u := by
  intro j u hj
  have hb : (w.alloc (.cells cs.toArray t)).heap[w.heap.size]? = some (.cells cs.toArray t (0, 0)) := heap_alloc_new w _
  have e : (⟨w.heap.size, 0, none⟩ : Addr).add j = ⟨w.heap.size, j, none⟩ := by simp [Addr.add]; exact fun h => h.symm
  rw [e, cell_of_row _ _ j cs.toArray t (0, 0) hb]
  simpa using hj
/-- A list of things that all are as they should be. -/
theorem sub_list {β : Type} {p : β → Prop} (d : List β) (h : ∀ x, x ∈ d → p x) : ∃ dl : List {x // p x}, dl.map Subtype.val = d := by
  induction d with
  | nil => exact ⟨[], rfl⟩
  | cons x d ih =>
    obtain ⟨dl, hd⟩ := ih fun y hy => h y (List.mem_cons_of_mem _ hy)
    exact ⟨⟨x, h x (List.mem_cons_self ..)⟩ :: dl, by rw [List.map_cons, hd]⟩
/-- A row that the call owns, with its place under a letter. -/
theorem own_at {w : World} {base n k : Nat} {T : TypeId} {v : Value} {xs : List Value} (h : w.ownsRow base T k v n xs) (h0 : 0 < n) :
    ∃ g o cap cs, o = 0 ∧ v = .slice (some ⟨g, o, none⟩) n cap ∧ base ≤ g ∧ w.heap[g]? = some (.cells cs T (0, 0)) ∧ n ≤ cap ∧ cap ≤ 9223372036854775807 := by
  rcases h.2 with ⟨_, hn⟩ | ⟨g, cap, cur, rfl, hb, hh, hn, hm, _⟩
  · omega
  · exact ⟨g, 0, cap, cur, rfl, rfl, hb, hh, hn, by simpa [maxLen] using hm⟩
/-- The slice '.slice A n c' reads as the elements d, of k cells each; its array's elements are of type T. -/
structure Rw {α : Type} (enc : α → List Value) (k : Nat) (T : TypeId) (w : World) (A : Option Addr) (n c : Nat) (d : List α) : Prop where
  len : d.length = n
  le : n ≤ c
  cap : c ≤ 9223372036854775807
  enc_ : ∀ x, x ∈ d → (enc x).length = k
  at_ : ∃ b o, A = some ⟨b, o, none⟩ ∧ (∃ cs fr, w.heap[b]? = some (.cells cs T fr)) ∧ ∀ j, j < n * k → w.cell? ⟨b, o + j, none⟩ = (cel enc d)[j]?
section
variable {α : Type} {enc : α → List Value} {k : Nat} {T : TypeId} {w w' W0 : World} {A : Option Addr} {n c : Nat} {d : List α}
theorem Rw.keep (h : Rw enc k T w A n c d) (hk : ∀ (b : Nat) (cs : Array Value) (fr : Nat × Nat), w.heap[b]? = some (Obj.cells cs T fr) → w'.heap[b]? = w.heap[b]?) : Rw enc k T w' A n c d := by
  refine ⟨h.len, h.le, h.cap, h.enc_, ?_⟩
  obtain ⟨b, o, hA, ⟨cs, fr, hT⟩, hc⟩ := h.at_
  have hb := hk b cs fr hT
  refine ⟨b, o, hA, ⟨cs, fr, hb.trans hT⟩, fun j hj => ?_⟩
  rw [World.cell?_of_block (w := w) (a := ⟨b, o + j, none⟩) hb]
  exact hc j hj
theorem Rw.below (h : Rw enc k T w A n c d) (hb : Below w.heap.size w w') : Rw enc k T w' A n c d := h.keep fun b _ _ hT => hb.block b (block_lt hT)
theorem Rw.held {R K : Nat} {T' : TypeId} (h : Rw enc k T W0 A n c d) (hh : Held R K T' W0 w) (hne : T ≠ T') : Rw enc k T w A n c d := h.keep fun _ _ _ hT => hh.other hne hT
/-- A row that the call owns, and that is not nil, read. -/
theorem Rw.of_own {base : Nat} {xs : List Value} (h : w.ownsRow base T k (.slice A n c) n xs) (hA : A ≠ none) (hd : d.length = n) (hx : cel enc d = xs) (he : ∀ x, x ∈ d → (enc x).length = k) : Rw enc k T w A n c d := by
  have h0 := h
  rcases h.2 with ⟨hv, _⟩ | ⟨g, cap, cur, hv, hb, hh, hn, hm, hs, ht⟩
  · injection hv with h1 _ _
    exact absurd h1 hA
  · injection hv with h1 h2 h3
    subst h1 h3
    refine ⟨hd, hn, by simpa [maxLen] using hm, he, ⟨g, 0, rfl, ⟨cur, (0, 0), hh⟩, fun j hj => ?_⟩⟩
    rw [Nat.zero_add, h0.cellAt j hj, hx]
/-- Cell c of element i. -/
theorem Rw.get (h : Rw enc k T w A n c d) {b o : Nat} (hA : A = some ⟨b, o, none⟩) {i j : Nat} (hi : i < n) (hj : j < k) : w.cell? ⟨b, o + i * k + j, none⟩ = (enc (d[i]'(by rw [h.len]; exact hi)))[j]? := by
  obtain ⟨b', o', hA', _, hc⟩ := h.at_
  rw [hA] at hA'
  injection hA' with hA'
  injection hA' with h1 h2
  subst h1 h2
  have hlt : i * k + j < n * k := by
    have := Nat.mul_le_mul_right k (show i + 1 ≤ n from hi); rw [Nat.add_mul, Nat.one_mul] at this; omega
  rw [Nat.add_assoc, hc _ hlt]
  exact cel_get h.enc_ (by rw [h.len]; exact hi) hj
/-- All cells of elements i, i + 1, .. as one list, for a copy. -/
theorem Rw.part (h : Rw enc k T w A n c d) {b o : Nat} (hA : A = some ⟨b, o, none⟩) {i m : Nat} (hi : i + m ≤ n) : ∀ j u, (cel enc ((d.drop i).take m))[j]? = some u → w.cell? ((⟨b, o + i * k, none⟩ : Addr).add j) = some u := by
  intro j u hj
  obtain ⟨b', o', hA', _, hc⟩ := h.at_
  rw [hA] at hA'
  injection hA' with hA'
  injection hA' with h1 h2
  subst h1 h2
  have hl := h.len
  have e1 : (⟨b, o + i * k, none⟩ : Addr).add j = ⟨b, o + i * k + j, none⟩ := by simp only [Addr.add]; split <;> simp_all
  have e2 : d = d.take i ++ ((d.drop i).take m ++ (d.drop i).drop m) := by rw [List.take_append_drop, List.take_append_drop]
  have hin : ∀ x, x ∈ (d.drop i).take m → (enc x).length = k := fun x hx => h.enc_ x (List.mem_of_mem_drop (List.mem_of_mem_take hx))
  have l1 : (cel enc (d.take i)).length = i * k := by
    rw [cel_len fun x hx => h.enc_ x (List.mem_of_mem_take hx), List.length_take]
    congr 1; omega
  have l2 : (cel enc ((d.drop i).take m)).length = m * k := by
    rw [cel_len hin, List.length_take, List.length_drop]
    congr 1; omega
  have hjl : j < m * k := by
    rcases Nat.lt_or_ge j (m * k) with h | h
    · exact h
    · rw [List.getElem?_eq_none (by omega)] at hj; cases hj
  have hlt : i * k + j < n * k := by
    have := Nat.mul_le_mul_right k hi; rw [Nat.add_mul] at this; omega
  rw [e1, Nat.add_assoc, hc _ hlt, e2, cel_app, cel_app, List.getElem?_append_right (by omega), l1, show i * k + j - i * k = j by omega, List.getElem?_append_left (by omega)]
  exact hj
end
end Go.Proofs.Tb
