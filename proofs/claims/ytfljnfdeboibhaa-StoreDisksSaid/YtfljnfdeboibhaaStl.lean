/- Rows of values, read and owned, over any program. -/
import Derived.Test.YtfljnfdeboibhaaRow
import Derived.Deep.Upon
import Derived.Lib.AppendZeros
set_option linter.unusedVariables false
set_option linter.unusedSimpArgs false
namespace Go.Proofs.Tb
open Go.RowKit

theorem own_below {base : Nat} {w w' : World} {e : TypeId} {k n : Nat} {v : Value} {xs : List Value} (h : w.ownsRow base e k v n xs) (hb : Below w.heap.size w w') : w'.ownsRow base e k v n xs := by
  refine ⟨h.1, ?_⟩
  rcases h.2 with h | ⟨g, cap, cur, hv, h1, h2, h3⟩
  · exact Or.inl h
  · exact Or.inr ⟨g, cap, cur, hv, h1, (hb.block g (block_lt h2)).trans h2, h3⟩
theorem own_keep {base : Nat} {w w' : World} {T : TypeId} {k n : Nat} {v : Value} {xs : List Value} (h : w.ownsRow base T k v n xs) (hk : ∀ g cs, v.ownBlock = some g → base ≤ g → w.heap[g]? = some (.cells cs T (0, 0)) → w'.heap[g]? = w.heap[g]?) : w'.ownsRow base T k v n xs := by
  refine ⟨h.1, ?_⟩
  rcases h.2 with h | ⟨g, cap, cur, rfl, h1, h2, h3⟩
  · exact Or.inl h
  · exact Or.inr ⟨g, cap, cur, rfl, h1, (hk g cur rfl h1 h2).trans h2, h3⟩
theorem own_lower {base b : Nat} {w : World} {T : TypeId} {k n : Nat} {v : Value} {xs : List Value} (h : w.ownsRow base T k v n xs) (hb : b ≤ base) : w.ownsRow b T k v n xs := by
  refine ⟨h.1, ?_⟩
  rcases h.2 with h | ⟨g, cap, cur, rfl, h1, h2, h3⟩
  · exact Or.inl h
  · exact Or.inr ⟨g, cap, cur, rfl, Nat.le_trans hb h1, h2, h3⟩
theorem own_far {base : Nat} {w : World} {T : TypeId} {k n : Nat} {v : Value} {xs : List Value} (h : w.ownsRow base T k v n xs) {p : Addr} {cs : Array Value} {T' : TypeId} {fr : Nat × Nat} (hp : w.heap[p.block]? = some (.cells cs T' fr)) (hT : T ≠ T') (u : Value) : (w.setCell p u).ownsRow base T k v n xs :=
  own_keep h fun g cs' _ _ hg => Below.heap_setCell w p u g (fun e => by
    rw [e, hp] at hg
    simp only [Option.some.injEq, Obj.cells.injEq] at hg
    exact hT hg.2.1.symm)
theorem own_tag {base : Nat} {w : World} {v : Value} {n k : Nat} {xs : List Value} {T T' : TypeId} (h : w.ownsRow base T k v n xs) (hT : T ≠ T') : ∀ g, v.ownBlock = some g → ∀ cs fr, w.heap[g]? ≠ some (.cells cs T' fr) := by
  intro g e cs fr hg
  rcases h.2 with ⟨rfl, _⟩ | ⟨q, cap, cur, rfl, _, h2, _⟩
  · simp [Value.ownBlock] at e
  · simp [Value.ownBlock] at e
    subst e
    rw [h2] at hg
    simp only [Option.some.injEq, Obj.cells.injEq] at hg
    exact hT hg.2.1
theorem own_lt {base : Nat} {w : World} {v : Value} {n k : Nat} {xs : List Value} {T : TypeId} (h : w.ownsRow base T k v n xs) : ∀ g, v.ownBlock = some g → g < w.heap.size := by
  intro g e
  rcases h.2 with ⟨rfl, _⟩ | ⟨q, cap, cur, rfl, _, h2, _⟩
  · simp [Value.ownBlock] at e
  · simp [Value.ownBlock] at e
    subst e
    exact block_lt h2
/-- The slice '.slice A n c' reads as elements of k cells. -/
structure Rv (w : World) (k : Nat) (A : Option Addr) (n c : Nat) (vs : List Value) : Prop where
  len : vs.length = n * k
  le : n ≤ c
  cap : c ≤ 9223372036854775807
  at_ : 0 < n → ∃ b o, A = some ⟨b, o, none⟩ ∧ ∀ j u, vs[j]? = some u → w.cell? ⟨b, o + j, none⟩ = some u
theorem Rv.below {w w' : World} {k : Nat} {A : Option Addr} {n c : Nat} {vs : List Value} (h : Rv w k A n c vs) (hb : Below w.heap.size w w') : Rv w' k A n c vs := by
  refine ⟨h.len, h.le, h.cap, fun h0 => ?_⟩
  obtain ⟨b, o, hA, hc⟩ := h.at_ h0
  exact ⟨b, o, hA, fun j u hj => (hb.cell (p := ⟨b, o + j, none⟩) (World.block_lt_of_cell? w _ (hc j u hj))).trans (hc j u hj)⟩
theorem Rv.nil (w : World) (k : Nat) : Rv w k none 0 0 [] := ⟨by simp, Nat.le_refl _, by omega, fun h => absurd h (by omega)⟩
theorem own_rv {base : Nat} {w : World} {T : TypeId} {k n : Nat} {v : Value} {xs : List Value} (h : w.ownsRow base T k v n xs) : ∃ A c, v = .slice A n c ∧ Rv w k A n c xs := by
  obtain ⟨hlen, h2⟩ := h
  rcases h2 with ⟨rfl, hn⟩ | ⟨g, cap, cur, rfl, hb, hh, hn, hm, hs, ht⟩
  · subst hn
    exact ⟨none, 0, rfl, ⟨hlen, Nat.le_refl _, by omega, fun h => absurd h (by omega)⟩⟩
  · refine ⟨_, _, rfl, ⟨hlen, hn, by simpa [maxLen] using hm, fun h0 => ⟨g, 0, rfl, fun j u hj => ?_⟩⟩⟩
    rw [Nat.zero_add, cell_of_row w g j cur T (0, 0) hh]
    rw [← ht, List.getElem?_take] at hj
    split at hj
    · simpa using hj
    · cases hj
theorem addr_add (b o j : Nat) : ({ block := b, off := o, spot := none } : Addr).add j = ⟨b, o + j, none⟩ := by
  simp only [Addr.add]
  by_cases hj0 : j = 0
  · subst hj0; simp
  · simp [hj0]
theorem Rv.news {w : World} {k : Nat} {A : Option Addr} {n c : Nat} {vs : List Value} (h : Rv w k A n c vs) (hk : 0 < k) : vs.length = n * k ∧ (0 < n → ∃ ad, A = some ad) ∧ ∀ ad, A = some ad → ∀ j u, vs[j]? = some u → w.cell? (ad.add j) = some u := by
  refine ⟨h.len, fun h0 => ?_, fun ad e j u hj => ?_⟩
  · obtain ⟨b, o, hA, _⟩ := h.at_ h0; exact ⟨_, hA⟩
  · have hjl : j < vs.length := by
      rcases Nat.lt_or_ge j vs.length with h' | h'
      · exact h'
      · rw [List.getElem?_eq_none h'] at hj; cases hj
    have h0 : 0 < n := by
      rcases Nat.eq_zero_or_pos n with h0 | h0
      · rw [h.len, h0, Nat.zero_mul] at hjl; omega
      · exact h0
    obtain ⟨b, o, hA, hc⟩ := h.at_ h0
    rw [hA] at e
    injection e with e
    subst e
    rw [addr_add]
    exact hc j u hj
/-- A prefix. -/
theorem Rv.take {w : World} {k : Nat} {A : Option Addr} {n c : Nat} {vs : List Value} (h : Rv w k A n c vs) {m : Nat} (hm : m ≤ n) : Rv w k A m c (vs.take (m * k)) := by
  have hle : m * k ≤ n * k := Nat.mul_le_mul_right k hm
  refine ⟨by rw [List.length_take, h.len]; omega, by have := h.le; omega, h.cap, fun h0 => ?_⟩
  obtain ⟨b, o, hA, hc⟩ := h.at_ (by omega)
  refine ⟨b, o, hA, fun j u hj => hc j u ?_⟩
  rw [List.getElem?_take] at hj
  split at hj
  · exact hj
  · cases hj
/-- append of a slice, maybe nil, to a row that the call owns. -/
theorem run_appA {P : Program} {w : World} (TS T : TypeId) (z : Value) (k bytes : Nat) (ty : TypeId) (hinf : (P.info? T).map (fun i => (i.zero, i.size, i.bytes)) = some (some z, k, bytes)) (hund : P.underlying TS = some (.slice T)) (hzs : z.cells.size = k) (h0 : 0 < k) (hby : bytes ≤ 1000)
    (base : Nat) (v : Value) (n : Nat) (xs : List Value) (hown : w.ownsRow base T k v n xs) (A : Option Addr) (m c : Nat) (news : List Value) (hl : news.length = m * k) (hA : 0 < m → ∃ ad, A = some ad) (hnews : ∀ ad, A = some ad → ∀ j u, news[j]? = some u → w.cell? (ad.add j) = some u)
    (h1 : ∀ u ∈ news, u.oneCell' = true) (hn : n ≤ 1000000) (hm : m ≤ 1000000) (hbase : base ≤ w.heap.size) :
    ∃ v' w', (Builtin.append_ #[TS, TS] ty #[v, .slice A m c]).run P w = .ok v' w' ∧ w'.ownsRow base T k v' (n + m) (xs ++ news) ∧ w.grownBy w' v.ownBlock ∧ Below base w w' := by
  obtain ⟨i0, hi, hz0, hz1, hz2⟩ := info_parts hinf
  cases A with
  | some ad =>
    have hbb : (n + m) * bytes ≤ 2000000 * 1000 := Nat.mul_le_mul (by omega) hby
    obtain ⟨v', w', h2, h3, h4, _⟩ := run_append_own (P := P) w base TS ty T i0 z k bytes hund hi hz0 hz1 hz2 hzs h0 v n xs hown ad m c news hl (hnews ad rfl) h1 (by unfold maxLen; omega) (by omega) hbase
    exact ⟨v', w', h2, h3, h4, (Below.refl _ _).grown h4 hbase (own_geE hown)⟩
  | none =>
    have hm0 : m = 0 := by
      rcases Nat.eq_zero_or_pos m with h | h
      · exact h
      · obtain ⟨ad, e⟩ := hA h; cases e
    subst hm0
    have hnil : news = [] := List.eq_nil_of_length_eq_zero (by rw [hl, Nat.zero_mul])
    subst hnil
    have hrow : ∃ b cap, v = .slice b n cap ∧ n ≤ cap := by
      rcases hown.2 with ⟨e, hn0⟩ | ⟨g, cap, cur, e, _, _, hle, _⟩
      · exact ⟨none, 0, by rw [e, hn0], by omega⟩
      · exact ⟨_, cap, e, hle⟩
    obtain ⟨b, cap, rfl, hle⟩ := hrow
    refine ⟨_, w, run_append_nothing (P := P) w TS TS ty T i0 hund hi b n cap hle (.slice none 0 c) (Src.ofNil w hund c), by rw [Nat.add_zero, List.append_nil]; exact hown, ⟨rfl, rfl, rfl, Nat.le_refl _, fun _ _ _ => rfl⟩, Below.refl _ _⟩
/-- .. as one operation. -/
theorem wp_appR {P : Program} {o : Oper} {a : Act} {K : Act → World → Prop} {Q : Exit → Act → World → Prop} {w : World} (TS T : TypeId) (z : Value) (k bytes : Nat) (hinf : (P.info? T).map (fun i => (i.zero, i.size, i.bytes)) = some (some z, k, bytes)) (hund : P.underlying TS = some (.slice T)) (hzs : z.cells.size = k) (h0 : 0 < k) (hby : bytes ≤ 1000)
    (s x : Operand) (ho : o.op = .call { callee := .builtin .append, args := #[s, x], argTypes := #[TS, TS] }) (base : Nat) (v : Value) (n : Nat) (xs : List Value) (hs : a.eval s = v) (hown : w.ownsRow base T k v n xs)
    (A : Option Addr) (m c : Nat) (news : List Value) (hx : a.eval x = .slice A m c) (hr : Rv w k A m c news)
    (h1 : ∀ u ∈ news, u.oneCell' = true) (hn : n ≤ 1000000) (hm : m ≤ 1000000) (hbase : base ≤ w.heap.size)
    (h : ∀ v' w', w'.ownsRow base T k v' (n + m) (xs ++ news) → w.grownBy w' v.ownBlock → Below base w w' → K (a.put o.dst v') w') : Oper.wp P o a w K Q := by
  obtain ⟨g1, g2, g3⟩ := hr.news h0
  obtain ⟨v3, w3, hrun, hrow, hgr, hbel⟩ := run_appA (P := P) (w := w) TS T z k bytes o.type hinf hund hzs h0 hby base v n xs hown A m c news g1 g2 g3 h1 hn hm hbase
  exact Go.Lib.wp_append_run w s x TS TS ho v (.slice A m c) hs hx _ w3 hrun (h _ _ hrow hgr hbel)
/-- .. in a list of operations. -/
theorem wpl_appR {P : Program} {ops : Array Oper} {rest : List Oper} {o : Oper} {a : Act} {Q : Exit → Act → World → Prop} {w : World} (TS T : TypeId) (z : Value) (k bytes : Nat) (hinf : (P.info? T).map (fun i => (i.zero, i.size, i.bytes)) = some (some z, k, bytes)) (hund : P.underlying TS = some (.slice T)) (hzs : z.cells.size = k) (h0 : 0 < k) (hby : bytes ≤ 1000)
    (hgd : o.guard = none) (s x : Operand) (ho : o.op = .call { callee := .builtin .append, args := #[s, x], argTypes := #[TS, TS] }) (base : Nat) (v : Value) (n : Nat) (xs : List Value) (hs : a.eval s = v) (hown : w.ownsRow base T k v n xs)
    (A : Option Addr) (m c : Nat) (news : List Value) (hx : a.eval x = .slice A m c) (hr : Rv w k A m c news)
    (h1 : ∀ u ∈ news, u.oneCell' = true) (hn : n ≤ 1000000) (hm : m ≤ 1000000) (hbase : base ≤ w.heap.size)
    (h : ∀ v' w', w'.ownsRow base T k v' (n + m) (xs ++ news) → w.grownBy w' v.ownBlock → Below base w w' → wpList P ops Q rest (a.put o.dst v') w') : wpList P ops Q (o :: rest) a w := by
  obtain ⟨g1, g2, g3⟩ := hr.news h0
  obtain ⟨v3, w3, hrun, hrow, hgr, hbel⟩ := run_appA (P := P) (w := w) TS T z k bytes o.type hinf hund hzs h0 hby base v n xs hown A m c news g1 g2 g3 h1 hn hm hbase
  exact Go.Lib.wpList_append_run w hgd s x TS TS ho v (.slice A m c) hs hx _ w3 hrun (h _ _ hrow hgr hbel)
theorem own_lit {base : Nat} {w : World} (T : TypeId) (k : Nat) (cs : Array Value) (n : Nat) (hb : base ≤ w.heap.size) (hn : n ≤ 1000000) (hs : cs.size = n * k) : (w.alloc (.cells cs T)).ownsRow base T k (.slice (some ⟨w.heap.size, 0, none⟩) n n) n cs.toList :=
  World.ownsRow_lit w cs n hb (by unfold maxLen; omega) hs
theorem rv_lit {w : World} (T : TypeId) (k : Nat) (cs : Array Value) (n : Nat) (hn : n ≤ 1000000) (hs : cs.size = n * k) : Rv (w.alloc (.cells cs T)) k (some ⟨w.heap.size, 0, none⟩) n n cs.toList := by
  obtain ⟨A, c, e, h⟩ := own_rv (own_lit (base := w.heap.size) (w := w) T k cs n (Nat.le_refl _) hn hs)
  injection e with e1 _ e3
  subst e1 e3
  exact h
end Go.Proofs.Tb
