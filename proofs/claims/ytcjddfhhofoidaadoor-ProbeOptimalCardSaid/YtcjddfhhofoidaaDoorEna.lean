/- Rows of ends (pairs of lists) in memory; append as one operation. -/
import Derived.Test.YtcjddfhhofoidaaDoorCsw
import Derived.Test.YtcjddfhhofoidaaDoorRb
import Derived.Test.YtcjddfhhofoidaaDoorGb
set_option linter.unusedVariables false
set_option linter.unusedSimpArgs false
namespace Go.Proofs.Tb
open Go.RowKit

abbrev TEN : TypeId := 49
abbrev TES : TypeId := 41
theorem en_info : (Tryd.prog.info? TEN).map (fun i => (i.zero, i.size, i.bytes)) = some (some (.agg #[.slice none 0 0, .slice none 0 0]), 2, 48) := by kernel_rfl
def prS (x : Value × Value) : List Value := [x.1, x.2]
/-- The pairs d read as the ends es. -/
def EnW (w : World) : List (Value × Value) → List En → Prop
  | [], [] => True
  | x :: d, e :: es => (SL TIN w x.1 (ic e.1) ∧ SL TIN w x.2 (ic e.2)) ∧ EnW w d es
  | _, _ => False
theorem EnW.len {w : World} : ∀ {d : List (Value × Value)} {es : List En}, EnW w d es → d.length = es.length
  | [], [], _ => rfl
  | _ :: d, _ :: es, h => by rw [List.length_cons, List.length_cons, EnW.len h.2]
theorem EnW.app {w : World} {d' : List (Value × Value)} {es' : List En} (h' : EnW w d' es') : ∀ {d : List (Value × Value)} {es : List En}, EnW w d es → EnW w (d ++ d') (es ++ es')
  | [], [], _ => h'
  | _ :: d, _ :: es, h => ⟨h.1, EnW.app h' h.2⟩
theorem EnW.imp {w w' : World} (hk : ∀ v xs, SL TIN w v (ic xs) → SL TIN w' v (ic xs)) : ∀ {d : List (Value × Value)} {es : List En}, EnW w d es → EnW w' d es
  | [], [], _ => trivial
  | _ :: d, _ :: es, h => ⟨⟨hk _ _ h.1.1, hk _ _ h.1.2⟩, EnW.imp hk h.2⟩
theorem EnW.below {w w' : World} {d : List (Value × Value)} {es : List En} (h : EnW w d es) (hb : Below w.heap.size w w') : EnW w' d es := h.imp fun _ _ hs => hs.below hb
theorem EnW.get {w : World} : ∀ {d : List (Value × Value)} {es : List En}, EnW w d es → ∀ j (hj : j < es.length), ∃ u v, d[j]? = some (u, v) ∧ SL TIN w u (ic (es.getD j ([], [])).1) ∧ SL TIN w v (ic (es.getD j ([], [])).2)
  | [], [], _, j, hj => by simp at hj
  | x :: d, e :: es, h, 0, _ => ⟨x.1, x.2, rfl, h.1.1, h.1.2⟩
  | x :: d, e :: es, h, j + 1, hj => by
    obtain ⟨u, v, h1, h2, h3⟩ := EnW.get h.2 j (by simpa using hj)
    exact ⟨u, v, by simpa using h1, by simpa using h2, by simpa using h3⟩
theorem prS_len (d : List (Value × Value)) : ∀ x, x ∈ d → (prS x).length = 2 := fun _ _ => rfl
theorem SL.oneC {w : World} {v : Value} {xs : List Value} (h : SL TIN w v xs) : v.oneCell' = true := by
  obtain ⟨A, n, c, rfl, _⟩ := h
  rfl
theorem EnW.one_cell {w : World} : ∀ {d : List (Value × Value)} {es : List En}, EnW w d es → ∀ u, u ∈ cel prS d → u.oneCell' = true
  | [], [], _, u, hu => by cases hu
  | x :: d, b :: es, h, u, hu => by
    have e : cel prS (x :: d) = prS x ++ cel prS d := rfl
    rw [e, List.mem_append] at hu
    rcases hu with hu | hu
    · unfold prS at hu
      rcases List.mem_cons.1 hu with rfl | hu
      · exact h.1.1.oneC
      · rw [List.mem_singleton] at hu
        subst hu
        exact h.1.2.oneC
    · exact EnW.one_cell h.2 u hu
/-- v owns a row of ends. -/
def OwE (base : Nat) (w : World) (v : Value) (es : List En) : Prop := ∃ d, w.ownsRow base TEN 2 v d.length (cel prS d) ∧ EnW w d es
theorem OwE.below {base : Nat} {w w' : World} {v : Value} {es : List En} (h : OwE base w v es) (hb : Below w.heap.size w w') : OwE base w' v es := by
  obtain ⟨d, h1, h2⟩ := h
  exact ⟨d, own_below h1 hb, h2.below hb⟩
theorem OwE.lit0 {base : Nat} {W : World} (hb : base ≤ W.heap.size) : OwE base (W.alloc (.cells #[] TEN)) (.slice (some ⟨W.heap.size, 0, none⟩) 0 0) [] :=
  ⟨[], World.ownsRow_lit W #[] 0 hb (by unfold maxLen; omega) rfl, trivial⟩
/-- A slice of ends that may be read. -/
structure SlE (w : World) (A : Option Addr) (n c : Nat) (es : List En) : Prop where
  len : es.length = n
  le : n ≤ c
  cap : c ≤ 9223372036854775807
  ex : ∃ d, EnW w d es ∧ (0 < n → ∃ b o, A = some ⟨b, o, none⟩ ∧ (∃ cs fr, w.heap[b]? = some (.cells cs TEN fr)) ∧ ∀ j u, (cel prS d)[j]? = some u → w.cell? ⟨b, o + j, none⟩ = some u)
theorem SlE.below {w w' : World} {A : Option Addr} {n c : Nat} {es : List En} (h : SlE w A n c es) (hb : Below w.heap.size w w') : SlE w' A n c es := by
  obtain ⟨d, h1, h2⟩ := h.ex
  refine ⟨h.len, h.le, h.cap, d, h1.below hb, fun h0 => ?_⟩
  obtain ⟨b, o, hA, ⟨cs, fr, hT⟩, hc⟩ := h2 h0
  have hbl := hb.block b (block_lt hT)
  exact ⟨b, o, hA, ⟨cs, fr, hbl.trans hT⟩, fun j u hj => (World.cell?_of_block (w := w) (a := ⟨b, o + j, none⟩) hbl).trans (hc j u hj)⟩
/-- The cells of an end. -/
theorem SlE.at_ {w : World} {A : Option Addr} {n c : Nat} {es : List En} (h : SlE w A n c es) (h0 : 0 < n) : ∃ b o, A = some ⟨b, o, none⟩ ∧ ∀ j, j < n → ∃ A1 n1 c1 A2 n2 c2, w.cell? ⟨b, o + j * 2, none⟩ = some (.slice A1 n1 c1) ∧ w.cell? ⟨b, o + j * 2 + 1, none⟩ = some (.slice A2 n2 c2) ∧
    Il w A1 n1 c1 (es.getD j ([], [])).1 ∧ Il w A2 n2 c2 (es.getD j ([], [])).2 := by
  obtain ⟨d, h1, h2⟩ := h.ex
  obtain ⟨b, o, hA, _, hc⟩ := h2 h0
  refine ⟨b, o, hA, fun j hj => ?_⟩
  obtain ⟨u, v, e, hu, hv⟩ := h1.get j (by rw [h.len]; exact hj)
  have hjd : j < d.length := by rw [h1.len, h.len]; exact hj
  have ed : d[j] = (u, v) := by rw [List.getElem?_eq_getElem hjd] at e; injection e
  have g0 := cel_get (prS_len d) hjd (show 0 < 2 by omega)
  have g1 := cel_get (prS_len d) hjd (show 1 < 2 by omega)
  rw [ed] at g0 g1
  have c0 := hc _ _ (g0.trans rfl)
  have c1 := hc _ _ (g1.trans rfl)
  rw [Nat.add_zero] at c0
  rw [← Nat.add_assoc] at c1
  obtain ⟨A1, c1', rfl, il1⟩ := hu.il
  obtain ⟨A2, c2', rfl, il2⟩ := hv.il
  exact ⟨A1, _, c1', A2, _, c2', c0, c1, il1, il2⟩
theorem OwE.sle {base : Nat} {w : World} {v : Value} {es : List En} (h : OwE base w v es) : ∃ A c, v = .slice A es.length c ∧ SlE w A es.length c es := by
  obtain ⟨d, h1, h2⟩ := h
  have hl := h2.len
  have h0 := h1
  rcases h1.2 with ⟨hv, hn⟩ | ⟨g, cap, cur, hv, _, hh, hn, hm, hs, ht⟩
  · refine ⟨none, 0, by rw [hv, ← hl, hn], by omega, by omega, by omega, d, h2, fun h => by omega⟩
  · rw [hl] at hv hn
    refine ⟨_, cap, hv, ⟨rfl, hn, by simpa [maxLen] using hm, d, h2, fun _ => ⟨g, 0, rfl, ⟨cur, _, hh⟩, fun j u hj => ?_⟩⟩⟩
    have hjl : j < d.length * 2 := by
      rcases Nat.lt_or_ge j (d.length * 2) with h | h
      · exact h
      · rw [List.getElem?_eq_none (by rw [cel_len (prS_len d)]; exact h)] at hj; cases hj
    subst hv
    rw [← hl] at h0
    have := h0.cellAt (g := g) (cap := cap) j hjl
    rw [Nat.zero_add, this, hj]
theorem SlE.nil (w : World) : SlE w none 0 0 [] := ⟨rfl, Nat.le_refl _, by omega, [], trivial, fun h => absurd h (by omega)⟩
theorem SlE.one {w : World} {g : Nat} {u v : Value} {xs ys : List Int} (hb : Blk w g TEN #[u, v]) (hu : SL TIN w u (ic xs)) (hv : SL TIN w v (ic ys)) : SlE w (some ⟨g, 0, none⟩) 1 1 [(xs, ys)] := by
  refine ⟨rfl, Nat.le_refl _, by omega, [(u, v)], ⟨⟨hu, hv⟩, trivial⟩, fun _ => ⟨g, 0, rfl, ⟨_, _, hb⟩, fun j z hj => ?_⟩⟩
  rw [Nat.zero_add, cell_of_row _ _ j _ TEN (0, 0) hb]
  simpa [cel, prS] using hj
theorem OwE.cat {base : Nat} {w w' : World} {v v' : Value} {d d' : List (Value × Value)} {es es' : List En} {m : Nat} (h1 : w.ownsRow base TEN 2 v d.length (cel prS d)) (h2 : EnW w d es) (h3 : EnW w d' es') (hm : d'.length = m)
    (ho : w'.ownsRow base TEN 2 v' (d.length + m) (cel prS d ++ cel prS d')) (hg : w.grownBy w' v.ownBlock) : OwE base w' v' (es ++ es') := by
  refine ⟨d ++ d', ?_, (EnW.app h3 h2).imp fun _ _ hs => hs.grown hg (own_tag h1 (show TEN ≠ TIN by decide))⟩
  rw [List.length_append, cel_app, hm]
  exact ho
/-- append of ends to ends. -/
theorem wp_appEn {o : Oper} {a : Act} {K : Act → World → Prop} {Q : Exit → Act → World → Prop} {w : World} (s x : Operand)
    (ho : o.op = .call { callee := .builtin .append, args := #[s, x], argTypes := #[TES, TES] }) (base : Nat) (v : Value) (es : List En) (hs : a.eval s = v) (hown : OwE base w v es)
    (A : Option Addr) (m c : Nat) (es' : List En) (hx : a.eval x = .slice A m c) (hsl : SlE w A m c es') (hn : es.length ≤ 1000) (hm : m ≤ 1000) (hbase : base ≤ w.heap.size)
    (h : ∀ A' n' c' w', OwE base w' (.slice A' n' c') (es ++ es') → Below base w w' → w.grownBy w' v.ownBlock → K (a.put o.dst (.slice A' n' c')) w') : Oper.wp Tryd.prog o a w K Q := by
  obtain ⟨d, h1, h2⟩ := hown
  have hdl := h2.len
  obtain ⟨d', hp, hc⟩ := hsl.ex
  have hl := hp.len
  have hlm := hsl.len
  refine wp_appA TES TEN _ 2 48 en_info Tryd.underlying41 rfl (by omega) (by omega) s x ho base v d.length (cel prS d) hs h1 A m c (cel prS d') hx (by rw [cel_len (k := 2) (fun x _ => rfl)]; omega)
    (fun h0 => by obtain ⟨b, o, e, _⟩ := hc h0; exact ⟨_, e⟩) (fun ad e j u hj => by
      have hm0 : 0 < m := by
        rcases Nat.eq_zero_or_pos m with h0 | h0
        · exfalso
          have : d' = [] := List.eq_nil_of_length_eq_zero (by omega)
          subst this
          simp [cel] at hj
        · exact h0
      obtain ⟨b, o, e', _, hcc⟩ := hc hm0
      rw [e] at e'
      injection e' with e'
      subst e'
      rw [add_addr]
      exact hcc j u hj) (EnW.one_cell hp) (by omega) (by omega) hbase ?_
  intro v3 w3 hrow hgr hbel
  have hO := OwE.cat (m := m) h1 h2 hp (by omega) hrow hgr
  obtain ⟨A', c', e, _⟩ := hO.sle
  subst e
  exact h _ _ _ _ hO hbel hgr
theorem OwI.apart {base q1 q3 n c : Nat} {w w' : World} {xs : List Int} (h : OwI base w (.slice (some ⟨q3, 0, none⟩) n c) xs) (hG : w.grownBy w' (some q1)) (hne : q3 ≠ q1) : OwI base w' (.slice (some ⟨q3, 0, none⟩) n c) xs :=
  h.keepG fun g cs e hb => hG.block g (block_lt hb) (fun e' => by
    simp [Value.ownBlock] at e
    injection e' with e'
    omega)
end Go.Proofs.Tb
