/- Three stores side by side; plain facts for TopVersions. -/
import Derived.Test.YtfljnfdeboibhaaGreatRps
set_option linter.unusedVariables false
set_option linter.unusedSimpArgs false
namespace Go.Proofs.Tb
open Go.Maps Go.RowKit Go.Lib

/-- Keys that begin with k, and values of the right size. -/
def KyV (L : List Pr) : Prop := ∀ p ∈ L, (1 ≤ p.1.size ∧ p.1.size ≤ 7 ∧ p.2.size ≤ 24) ∧ ∃ tl, p.1.toList = 107 :: tl
theorem KyV.apP {L : List Pr} {c : Cg} (h : KyV L) (hc : (1 ≤ c.k.size ∧ c.k.size ≤ 7 ∧ c.v.size ≤ 24 ∧ (c.gone = true → c.v.size = 0)) ∧ ∃ tl, c.k.toList = 107 :: tl) : KyV (apP L c) := fun p hp => by
  obtain ⟨k, v⟩ := p
  rcases (mem_apP L c k v).1 hp with ⟨e1, _, e2⟩ | ⟨_, h2⟩
  · subst e1 e2
    exact ⟨⟨hc.1.1, hc.1.2.1, hc.1.2.2.1⟩, hc.2⟩
  · exact h _ h2
theorem KyV.aft : ∀ {cs : List Cg} {L : List Pr}, KyV L → SmC cs → KyV (aft L cs)
  | [], _, h, _ => h
  | c :: cs, _, h, hs => KyV.aft (cs := cs) (h.apP (hs c List.mem_cons_self)) fun x hx => hs x (List.mem_cons_of_mem _ hx)
theorem SmC.bat {o : List Cg} (h : SmC o) (h1 : 1 ≤ o.length) (h2 : o.length ≤ 6) : batB o = true := by
  refine batB_of (fun c hc => ?_) h1 (by omega)
  obtain ⟨⟨a, b, d, e⟩, _⟩ := h c hc
  unfold chgB keyB
  rw [decide_eq_true a, decide_eq_true (show c.k.size ≤ 12 by omega), decide_eq_true d]
  cases hg : c.gone with
  | false => rfl
  | true => rw [decide_eq_true (e hg)]; rfl
theorem Dif.chg {a b : List Pr} {l : List Cg} (h : Dif a b l) (ha : KyV a) (hb : KyV b) : ∀ c ∈ l, chgB c = true := fun c hc => by
  unfold chgB keyB
  rcases (h.mem c).1 hc with ⟨g, m, _⟩ | ⟨g, e, ⟨v, m⟩, _⟩
  · obtain ⟨⟨x, y, z⟩, _⟩ := hb _ m
    dsimp only at x y z
    rw [decide_eq_true x, decide_eq_true (show c.k.size ≤ 12 by omega), decide_eq_true z, g]
    rfl
  · obtain ⟨⟨x, y, z⟩, _⟩ := ha _ m
    dsimp only at x y
    rw [decide_eq_true x, decide_eq_true (show c.k.size ≤ 12 by omega), g, e]
    rfl
def sLast : Str := ⟨#[108, 97, 115, 116]⟩
theorem KyV.last {L : List Pr} (h : KyV L) : ∀ p ∈ L, p.1 ≠ sLast := fun p hp e => by
  obtain ⟨_, tl, ht⟩ := h p hp
  rw [e, ByteArray.toList_eq] at ht
  injection ht with ht _
  exact absurd ht (by decide)
theorem setP_len {L : List Pr} {k v : Str} (h : ∀ p ∈ L, p.1 ≠ k) : (setP L k v).length = L.length + 1 := by
  have e : (low k L).length + (high k L).length = L.length := by
    induction L with
    | nil => rfl
    | cons p L ih =>
      have ih := ih fun q hq => h q (List.mem_cons_of_mem _ hq)
      have hne := h p List.mem_cons_self
      rw [low_cons, high_cons]
      rcases sl_tri p.1 k with h1 | h1 | h1
      · rw [if_pos h1, if_neg (by rw [sl_asymm h1]; exact Bool.false_ne_true), List.length_cons, List.length_cons]; omega
      · exact absurd h1 hne
      · rw [if_neg (by rw [sl_asymm h1]; exact Bool.false_ne_true), if_pos h1, List.length_cons, List.length_cons]; omega
  unfold setP
  rw [List.length_append, List.length_cons]; omega
def cLast : List Cg := [⟨sLast, ⟨#[120]⟩, false⟩]
theorem last_fnd {L : List Pr} (hs : Srtd L) : fndP (aft L cLast) sLast = some ⟨#[120]⟩ := by
  refine fndP_some (aft_srtd cLast hs) ?_
  exact (mem_apP L ⟨sLast, ⟨#[120]⟩, false⟩ sLast ⟨#[120]⟩).2 (.inl ⟨rfl, rfl, rfl⟩)
theorem last_len {L : List Pr} (h : KyV L) : (aft L cLast).length = L.length + 1 := setP_len (v := ⟨#[120]⟩) h.last
/-- Stores side by side. -/
structure Tri (w W : World) (s d p dp q dq : Nat) (Vs Ps Qs : List (List Pr)) (lq : Nat) : Prop where
  ex : ∃ Fs Fp Fq : Nat → Prop, STl Fs W s d 8 4096 Vs 0 ∧ STl Fp W p dp 0 4096 Ps 0 ∧ STl Fq W q dq 0 4096 Qs lq ∧ (∀ b, Fs b ∨ Fp b ∨ Fq b → b < W.heap.size) ∧ (∀ b, Fs b → ¬ Fp b ∧ ¬ Fq b) ∧ (∀ b, Fp b → ¬ Fq b) ∧ ∀ b, Fs b ∨ Fp b ∨ Fq b → w.heap.size ≤ b
  xx : Ext w W
section
variable {w W W' : World} {s d p dp q dq : Nat} {Vs Ps Qs : List (List Pr)} {lq : Nat}
theorem Tri.ext (h : Tri w W s d p dp q dq Vs Ps Qs lq) (x : Ext W W') : Tri w W' s d p dp q dq Vs Ps Qs lq := by
  obtain ⟨Fs, Fp, Fq, h1, h2, h3, h4, h5⟩ := h.ex
  exact ⟨⟨Fs, Fp, Fq, h1.ext x, h2.ext x, h3.ext x, fun b hb => Nat.lt_of_lt_of_le (h4 b hb) x.size, h5⟩, bt h.xx x⟩
/-- Something is done to the second store. -/
theorem Tri.onP (h : Tri w W s d p dp q dq Vs Ps Qs lq) : ∃ G : Nat → Prop, STl G W p dp 0 4096 Ps 0 ∧ (∀ b, W.heap.size ≤ b → G b) ∧ (∀ b, G b → w.heap.size ≤ b) ∧ ∀ W' Ps', STl G W' p dp 0 4096 Ps' 0 → Chg (MF G) W W' → Tri w W' s d p dp q dq Vs Ps' Qs lq := by
  obtain ⟨Fs, Fp, Fq, h1, h2, h3, h4, h5, h6, h7⟩ := h.ex
  refine ⟨fun b => Fp b ∨ W.heap.size ≤ b, h2.imp fun b hb => .inl hb, fun b hb => .inr hb, fun b hb => ?_, fun W' Ps' g1 g2 => ⟨⟨Fs, fun b => (Fp b ∨ W.heap.size ≤ b) ∧ b < W'.heap.size, Fq, ?_, g1.old, ?_, ?_, ?_, ?_, ?_⟩, ?_⟩⟩
  · rcases hb with hb | hb
    · exact h7 b (.inr (.inl hb))
    · exact Nat.le_trans h.xx.size hb
  · refine h1.apart g2 fun b hb hg => ?_
    rcases hg with hg | hg
    · exact (h5 b hb).1 hg
    · have := h4 b (.inl hb); omega
  · refine h3.apart g2 fun b hb hg => ?_
    rcases hg with hg | hg
    · exact h6 b hg hb
    · have := h4 b (.inr (.inr hb)); omega
  · rintro b (hb | hb | hb)
    · exact Nat.lt_of_lt_of_le (h4 b (.inl hb)) g2.size
    · exact hb.2
    · exact Nat.lt_of_lt_of_le (h4 b (.inr (.inr hb))) g2.size
  · intro b hb
    refine ⟨fun hg => ?_, (h5 b hb).2⟩
    rcases hg.1 with hg | hg
    · exact (h5 b hb).1 hg
    · have := h4 b (.inl hb); omega
  · intro b hb hq
    rcases hb.1 with hg | hg
    · exact h6 b hg hq
    · have := h4 b (.inr (.inr hq)); omega
  · rintro b (hb | hb | hb)
    · exact h7 b (.inl hb)
    · rcases hb.1 with hg | hg
      · exact h7 b (.inr (.inl hg))
      · exact Nat.le_trans h.xx.size hg
    · exact h7 b (.inr (.inr hb))
  · have h8 : Below w.heap.size W W' := g2.below (fun b o hb => by
      rcases hb.1 with hg | hg
      · exact h7 b (.inr (.inl hg))
      · exact Nat.le_trans h.xx.size hg) h.xx.size
    exact Below.trans h.xx h8
/-- Something is done to the third store. -/
theorem Tri.onQ (h : Tri w W s d p dp q dq Vs Ps Qs lq) : ∃ G : Nat → Prop, STl G W q dq 0 4096 Qs lq ∧ (∀ b, W.heap.size ≤ b → G b) ∧ (∀ b, G b → w.heap.size ≤ b) ∧ ∀ W' Qs' lq', STl G W' q dq 0 4096 Qs' lq' → Chg (MF G) W W' → Tri w W' s d p dp q dq Vs Ps Qs' lq' := by
  obtain ⟨Fs, Fp, Fq, h1, h2, h3, h4, h5, h6, h7⟩ := h.ex
  refine ⟨fun b => Fq b ∨ W.heap.size ≤ b, h3.imp fun b hb => .inl hb, fun b hb => .inr hb, fun b hb => ?_, fun W' Qs' lq' g1 g2 => ⟨⟨Fs, Fp, fun b => (Fq b ∨ W.heap.size ≤ b) ∧ b < W'.heap.size, ?_, ?_, g1.old, ?_, ?_, ?_, ?_⟩, ?_⟩⟩
  · rcases hb with hb | hb
    · exact h7 b (.inr (.inr hb))
    · exact Nat.le_trans h.xx.size hb
  · refine h1.apart g2 fun b hb hg => ?_
    rcases hg with hg | hg
    · exact (h5 b hb).2 hg
    · have := h4 b (.inl hb); omega
  · refine h2.apart g2 fun b hb hg => ?_
    rcases hg with hg | hg
    · exact h6 b hb hg
    · have := h4 b (.inr (.inl hb)); omega
  · rintro b (hb | hb | hb)
    · exact Nat.lt_of_lt_of_le (h4 b (.inl hb)) g2.size
    · exact Nat.lt_of_lt_of_le (h4 b (.inr (.inl hb))) g2.size
    · exact hb.2
  · intro b hb
    refine ⟨(h5 b hb).1, fun hg => ?_⟩
    rcases hg.1 with hg | hg
    · exact (h5 b hb).2 hg
    · have := h4 b (.inl hb); omega
  · intro b hb hq
    rcases hq.1 with hg | hg
    · exact h6 b hb hg
    · have := h4 b (.inr (.inl hb)); omega
  · rintro b (hb | hb | hb)
    · exact h7 b (.inl hb)
    · exact h7 b (.inr (.inl hb))
    · rcases hb.1 with hg | hg
      · exact h7 b (.inr (.inr hg))
      · exact Nat.le_trans h.xx.size hg
  · have h8 : Below w.heap.size W W' := g2.below (fun b o hb => by
      rcases hb.1 with hg | hg
      · exact h7 b (.inr (.inr hg))
      · exact Nat.le_trans h.xx.size hg) h.xx.size
    exact Below.trans h.xx h8
end
/-- A new store beside older ones. -/
theorem chgG_below {G : Nat → Prop} {w W W' : World} (hx : Ext w W) (hG : ∀ b, G b → w.heap.size ≤ b) (hc : Chg (MF G) W W') : Ext w W' := by
  have h1 : Below w.heap.size W W' := hc.below (fun b o hb => hG b hb.1) hx.size
  exact Below.trans hx h1
end Go.Proofs.Tb
