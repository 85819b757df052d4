/- append of tests as a step of a region that draws its order. -/
import Derived.Test.YtcjddfhhofoidaaDoorRb
set_option linter.unusedVariables false
set_option linter.unusedSimpArgs false
namespace Go.Proofs.Tb
open Go.RowKit

theorem OwP.lit0 {base : Nat} {W : World} (hb : base ≤ W.heap.size) : OwP TTE base (W.alloc (.cells #[] TTE)) (.slice (some ⟨W.heap.size, 0, none⟩) 0 0) [] :=
  ⟨[], World.ownsRow_lit W #[] 0 hb (by unfold maxLen; omega) rfl, trivial⟩
theorem wp_appP {o : Oper} {a : Act} {K : Act → World → Prop} {Q : Exit → Act → World → Prop} {w : World} (s x : Operand)
    (ho : o.op = .call { callee := .builtin .append, args := #[s, x], argTypes := #[TTS, TTS] }) (base : Nat) (v : Value) (bs : List Tt) (hs : a.eval s = v) (hown : OwP TTE base w v bs)
    (A : Option Addr) (m c : Nat) (bs' : List Tt) (hx : a.eval x = .slice A m c) (hsl : SlP TTE w A m c bs') (hn : bs.length ≤ 1000) (hm : m ≤ 1000) (hbase : base ≤ w.heap.size)
    (h : ∀ A' n' c' w', OwP TTE base w' (.slice A' n' c') (bs ++ bs') → Below base w w' → w.grownBy w' v.ownBlock → K (a.put o.dst (.slice A' n' c')) w') :
    Oper.wp Tryd.prog o a w K Q := by
  obtain ⟨d, h1, h2⟩ := hown
  have hdl := h2.len
  obtain ⟨d', hp, hc⟩ := hsl.ex
  have hl := hp.len
  have hlm := hsl.len
  obtain ⟨v3, w3, hrun, hrow, hgr, hbel⟩ := run_appA (P := Tryd.prog) (w := w) TTS TTE _ 2 32 o.type te_info Tryd.underlying23 rfl (by omega) (by omega) base v d.length (cel prE d) h1 A m c (cel prE d') (by rw [cel_len (k := 2) (fun x _ => rfl)]; omega)
    (fun h0 => by obtain ⟨b, o, e, _⟩ := hc h0; exact ⟨_, e⟩) (fun ad e j u hj => by
      have hm0 : 0 < m := by
        rcases Nat.eq_zero_or_pos m with h0 | h0
        · exfalso
          have : d' = [] := List.eq_nil_of_length_eq_zero (by omega)
          subst this
          simp [cel] at hj
        · exact h0
      obtain ⟨b, o, e', _, hcc⟩ := hc hm0
      rw [e] at e'
      injection e' with e'
      subst e'
      have e2 : ({ block := b, off := o } : Addr).add j = ⟨b, o + j, none⟩ := by
        simp only [Addr.add]
        by_cases hj0 : j = 0
        · subst hj0; simp
        · simp [hj0]
      rw [e2]
      exact hcc j u hj) (PrW.one_cell hp) (by omega) (by omega) hbase
  have hO := OwP.cat (m := m) (by decide) h1 h2 hp (by omega) hrow hgr
  obtain ⟨A', c', e, _⟩ := hO.slp
  subst e
  exact Go.Lib.wp_append_run w s x TTS TTS ho v (.slice A m c) hs hx _ w3 hrun (h _ _ _ _ hO hbel hgr)
end Go.Proofs.Tb
