/- The disk in memory: a look, a block that becomes loose, one that is exchanged, one more content, and the fields. -/
import Derived.Test.YtfljnfdeboibhaaStu
import Derived.Maps.Range
set_option linter.unusedVariables false
set_option linter.unusedSimpArgs false
namespace Go.Proofs.Tb
open Go.Maps Go.RowKit

theorem lawL : Keyed Try.prog TIN := int_keyed Try.underlying3
theorem zeroL (w : World) : (zeroValue TBB).run Try.prog w = .ok nlB w := by kernel_rfl
theorem keyK {k : Nat} (hk : k ≤ 1000000000) : keyOf Try.prog TIN (.int .i64 (k : Int)) = some (kI k) := keyI k hk
theorem kI_ne {j k : Nat} (h : j ≠ k) : kI j ≠ kI k := fun e => by
  injection e with _ e
  exact h (by omega)
theorem upto_len : ∀ (n : Nat) (l : List Nat), l.Pairwise (· ≠ ·) → (∀ x ∈ l, x < n) → l.length ≤ n
  | 0, [], _, _ => Nat.le_refl _
  | 0, x :: l, _, h => absurd (h x List.mem_cons_self) (by omega)
  | n + 1, l, hp, h => by
    have h1 := upto_len n (l.filter fun x => decide (x ≠ n)) (hp.filter _) fun x hx => by
      obtain ⟨hx, hn⟩ := List.mem_filter.1 hx
      have := h x hx
      have : x ≠ n := by simpa using hn
      omega
    have h2 : ∀ l : List Nat, l.Pairwise (· ≠ ·) → l.length ≤ (l.filter fun x => decide (x ≠ n)).length + 1 := by
      intro l
      induction l with
      | nil => intro _; simp
      | cons x l ih =>
        intro hp
        obtain ⟨hx, hp⟩ := List.pairwise_cons.1 hp
        by_cases hxn : x = n
        · subst hxn
          have e : (l.filter fun y => decide (y ≠ x)) = l := List.filter_eq_self.2 fun y hy => by simpa using (Ne.symm (hx y hy))
          rw [List.filter_cons_of_neg (by simp), e]
          simp
        · rw [List.filter_cons_of_pos (by simpa using hxn)]
          have := ih hp
          simp only [List.length_cons]
          omega
    have := h2 l hp
    omega
theorem own_tight {H : Type} {P : Program} {k : TypeId} {R : Value → Option (DataW H × List MemPlace)} {w : World} {b n : Nat} {D : DataW H} (h : w.ownsMap P k R b n D) : w.ownsMap P k R b (Maps.size D) D := by
  obtain ⟨es, clock, hb, F, hs, rfl⟩ := h
  refine ⟨es, clock, hb, F, ?_, rfl⟩
  simp [Maps.size, DataW.length_sorted]
variable {w : World} {d : Nat} {g : Dkg} {cur : List (List Nat)} {bl : List (List (List Nat))} {down : Bool} {left : Nat}
theorem DI.tidy (h : DI w d g cur bl down left) : Tidy g.D := h.mp.tidy lawL
theorem DI.size_le (h : DI w d g cur bl down left) : Maps.size g.D ≤ cur.length := by
  obtain ⟨es, hD, hp⟩ := h.tidy
  rw [hD, Maps.size_eq]
  have hk : ∀ p ∈ es, ∃ k, k < cur.length ∧ p.1 = kI k := fun p hp => by
    refine h.keys p.1 ?_
    rw [hD, Maps.has_eq, List.any_eq_true]
    refine ⟨p, hp, ?_⟩
    obtain ⟨es', hD', hq⟩ := World.ownsMap.entries h.mp lawL
    rw [hD] at hD'
    injection hD' with hD'
    subst hD'
    exact WideAt.sameKey_self (hq.2 p hp)
  let f : Lit × DataW Value → Nat := fun p => match p.1 with | .int _ z => z.toNat | _ => 0
  have hf : ∀ p ∈ es, f p < cur.length ∧ p.1 = kI (f p) := fun p hp => by
    obtain ⟨k, hk, e⟩ := hk p hp
    have : f p = k := by show (match p.1 with | .int _ z => z.toNat | _ => 0) = k; rw [e]; simp [kI]
    rw [this]
    exact ⟨hk, e⟩
  have := upto_len cur.length (es.map f) (by
    rw [List.pairwise_map]
    refine hp.imp_of_mem fun {a b} ha hb hne e => hne ?_
    rw [(hf a ha).2, (hf b hb).2, e]) fun x hx => by
      obtain ⟨p, hp, rfl⟩ := List.mem_map.1 hx
      exact (hf p hp).1
  simpa using this
set_option maxRecDepth 100000 in
theorem DI.look (h : DI w d g cur bl down left) {k : Nat} (hk : k < cur.length) : (Instr.lookup TLM (.map (some g.m)) (.int .i64 (k : Int)) false).run Try.prog w = .ok (if g.lo k = true then g.Lv k else nlB) w := by
  have hf := h.few
  obtain ⟨v, ps, hrun, hR⟩ := World.ownsMap.lookup (H := Value) h.mp lawL Try.underlying67 (zeroL w) (R := RH) (zd := .held nlB) (zp := []) rfl (keyK (k := k) (by omega))
  rw [hrun]
  have hv : DataW.held v = g.D.atKey (kI k) (.held nlB) := by
    unfold RH at hR
    injection hR with hR
    injection hR
  cases hlo : g.lo k with
  | true =>
    rw [(h.yes k hk hlo).2.1] at hv
    injection hv with hv
    rw [hv, if_pos rfl]
  | false =>
    rw [atKey_of_not_has (h.no k hk hlo)] at hv
    injection hv with hv
    rw [hv, if_neg Bool.false_ne_true]
theorem DI.blk_ne (h : DI w d g cur bl down left) {b : Nat} {cs : Array Value} {T : TypeId} (hb : w.heap[b]? = some (.cells cs T (0, 0))) (hT : T ≠ TDK) (hT' : T ≠ TBY) : ¬ g.fp d cur.length b := fun hfp => by
  obtain ⟨o, ho, _⟩ := h.fp_lt hfp
  rcases hfp with rfl | rfl | hv | ⟨k, hk, hl, hv⟩
  · have := h.dk
    unfold Blk at this
    rw [hb] at this
    injection this with this
    injection this with _ e
    exact hT e
  · obtain ⟨es, clock, hm, _⟩ := h.mp
    rw [hb] at hm
    cases hm
  · obtain ⟨cs', hv⟩ := own_lt' h.row hv
    rw [hb] at hv
    injection hv with hv
    injection hv with _ e
    exact hT' e
  · obtain ⟨cs', hv⟩ := own_lt' (h.yes k hk hl).2.2.1 hv
    rw [hb] at hv
    injection hv with hv
    injection hv with _ e
    exact hT' e
theorem DI.d_row (h : DI w d g cur bl down left) {v : Value} {n : Nat} {xs : List Value} (hv : w.ownsRow 0 TBY 1 v n xs) : v.ownBlock ≠ some d := fun e => by
  obtain ⟨cs, hc⟩ := own_lt' hv e
  have := h.dk
  unfold Blk at this
  rw [hc] at this
  injection this with this
  injection this with _ e
  revert e
  decide
theorem DI.m_row (h : DI w d g cur bl down left) {T : TypeId} {v : Value} {n : Nat} {xs : List Value} (hv : w.ownsRow 0 T 1 v n xs) : v.ownBlock ≠ some g.m := fun e => by
  obtain ⟨cs, hc⟩ := own_lt' hv e
  obtain ⟨es, clock, hm, _⟩ := h.mp
  rw [hc] at hm
  cases hm
theorem DI.d_m (h : DI w d g cur bl down left) : d ≠ g.m := fun e => by
  obtain ⟨es, clock, hm, _⟩ := h.mp
  have := h.dk
  unfold Blk at this
  rw [e, hm] at this
  cases this
/-- Only the disk's own fields have changed. -/
theorem DI.fields {w' : World} (h : DI w d g cur bl down left) (hc : Chg (fun b _ => b = d) w w') {down' : Bool} {left' : Nat} (hd : Blk w' d TDK #[g.v, .map (some g.m), .bool down', .int .i64 (left' : Int)]) (hl : left' ≤ 9223372036854775807) : DI w' d g cur bl down' left' := by
  have h2 : ∀ b cs, w.heap[b]? = some (.cells cs TU8 (0, 0)) → b ≠ d := fun b cs hb e => by
    have := h.dk
    unfold Blk at this
    rw [← e, hb] at this
    injection this with this
    injection this with _ e
    revert e
    decide
  have hs : ∀ {v : Value} {bs : List Nat}, SeesB w v bs → SeesB w' v bs := fun {v bs} hv => by
    rcases hv with hv | ⟨hv, hvl⟩
    · exact Or.inl hv
    · exact Or.inr ⟨own_keep hv fun b cs _ _ hb => (hc.same b _ hb (h2 b cs hb)).trans hb.symm, hvl⟩
  have hr : ∀ {v : Value} {n : Nat} {xs : List Value}, w.ownsRow 0 TBY 1 v n xs → w'.ownsRow 0 TBY 1 v n xs := fun {v n xs} hv => hc.own hv fun b cs hb e => h.d_row hv (by rw [hb, e])
  exact ⟨hd, hl, hr h.row, h.len, h.few, map_chg h.mp hc fun o e => h.d_m e.symm, fun k hk => hs (h.sees k hk), h.keys, h.no, fun k hk hlo => by
    obtain ⟨y1, y2, y3, y4⟩ := h.yes k hk hlo
    exact ⟨y1, y2, hr y3, fun j hj => hs (y4 j hj)⟩, h.ne, h.apart⟩
/-- A block is exchanged. -/
theorem DI.seton {gb cap : Nat} (h : DI w d g cur bl down left) (hv : g.v = .slice (some ⟨gb, 0, none⟩) cur.length cap) {k : Nat} (hk : k < cur.length) {x : Value} {bs : List Nat} (hx : SeesB w x bs) :
    DI (w.setCell ⟨gb, k, none⟩ x) d { g with vs := g.vs.set k x } (cur.set k bs) bl down left := by
  have hrow := h.row
  rw [hv] at hrow
  obtain ⟨s1, s2⟩ := hrow.stored k x
  have hob : g.v.ownBlock = some gb := by rw [hv]; rfl
  have hc : Chg (fun b o => b = gb ∧ w.heap[b]? = some o) w (w.setCell ⟨gb, k, none⟩ x) := Chg.grow s2 fun b o e hb => ⟨(by injection e with e; exact e.symm), hb⟩
  obtain ⟨cs0, hcs0⟩ := own_lt' h.row hob
  have hs : ∀ {v : Value} {bs : List Nat}, SeesB w v bs → SeesB (w.setCell ⟨gb, k, none⟩ x) v bs := fun {v bs} hv => hv.chg hc fun b cs hX => by
    obtain ⟨rfl, e⟩ := hX
    rw [hcs0] at e
    injection e with e
    injection e with _ e
    revert e
    decide
  have hlen : g.vs.length = cur.length := by have := hrow.1; omega
  refine ⟨hc.blk h.dk fun hX => h.d_row h.row (by rw [hob, hX.1]), h.lft, ?_, ?_, ?_, map_chg h.mp hc fun o hX => h.m_row h.row (by rw [hob, hX.1]), ?_, ?_, ?_, ?_, ?_, ?_⟩
  · rw [List.length_set]
    show (w.setCell ⟨gb, k, none⟩ x).ownsRow 0 TBY 1 g.v cur.length (g.vs.set k x)
    rw [hv]
    exact s1
  · rw [List.length_set]; exact h.len
  · rw [List.length_set]; exact h.few
  · intro j hj
    rw [List.length_set] at hj
    show SeesB _ ((g.vs.set k x).getD j nlB) _
    by_cases hjk : j = k
    · subst hjk
      have e1 : (g.vs.set j x).getD j nlB = x := by simp [List.getD, List.getElem?_set, hlen, hk]
      have e2 : (cur.set j bs).getD j z64 = bs := by simp [List.getD, List.getElem?_set, hk]
      rw [e1, e2]
      exact hs hx
    · have e1 : (g.vs.set k x).getD j nlB = g.vs.getD j nlB := by simp [List.getD, List.getElem?_set, Ne.symm hjk]
      have e2 : (cur.set k bs).getD j z64 = cur.getD j z64 := by simp [List.getD, List.getElem?_set, Ne.symm hjk]
      rw [e1, e2]
      exact hs (h.sees j hj)
  · intro l hl
    rw [List.length_set]
    exact h.keys l hl
  · intro j hj
    rw [List.length_set] at hj
    exact h.no j hj
  · intro j hj hlo
    rw [List.length_set] at hj
    obtain ⟨y1, y2, y3, y4⟩ := h.yes j hj hlo
    exact ⟨y1, y2, hc.own y3 fun b cs hb hX => (h.apart j hj hlo b hb).1 (by rw [hob, hX.1]), fun i hi => hs (y4 i hi)⟩
  · intro j hj
    rw [List.length_set] at hj
    exact h.ne j hj
  · intro j hj hlo b hb
    rw [List.length_set] at hj ⊢
    exact h.apart j hj hlo b hb
end Go.Proofs.Tb
