/- The reference's disk: Read, Loose. -/
import Derived.Test.YtfljnfdeboibhaaRqf
set_option linter.unusedVariables false
set_option linter.unusedSimpArgs false
namespace Go.Proofs.Tb
open Go.Maps Go.RowKit Go.Lib
attribute [local go_sem] cell_set_same neqMapL

abbrev TRD : TypeId := 75
/-- The reference's disk shows the same as a disk. -/
def RdV (w : World) (v : Value) (bl : List (List (List Nat))) (down : Bool) (left : Nat) : Prop :=
  ∃ A n c armed lf, v = rdk A n c down armed lf ∧ OwTd 0 w (.slice A n c) bl ∧ (down = false → armed = decide (1 ≤ left) ∧ (1 ≤ left → lf = (left : Int)))
theorem RdV.ext {w w' : World} {v : Value} {bl : List (List (List Nat))} {down : Bool} {left : Nat} (h : RdV w v bl down left) (x : Ext w w') : RdV w' v bl down left := by
  obtain ⟨A, n, c, a, lf, e, h1, h2⟩ := h
  exact ⟨A, n, c, a, lf, e, h1.ext x, h2⟩
theorem OwTd.at_ {w : World} {A : Option Addr} {n c : Nat} {bl : List (List (List Nat))} (h : OwTd 0 w (.slice A n c) bl) {q : Nat} (hq : q < bl.length) : ∃ b o Az cz, A = some ⟨b, o, none⟩ ∧ w.cell? ⟨b, o + q, none⟩ = some (.slice Az (bl.getD q []).length cz) ∧ Rv w 1 Az (bl.getD q []).length cz (sc (bl.getD q [])) := by
  obtain ⟨zs, ho, hr⟩ := h
  have hn : n = bl.length := by
    obtain ⟨A', c', e, _⟩ := own_rv ho
    injection e
  obtain ⟨b, o, hA, hc⟩ := (own_rvv ho).at_ (by omega)
  have h2 := hr.2 q hq
  obtain ⟨Az, cz, ez, hz⟩ := own_rv h2
  refine ⟨b, o, Az, cz, hA, hc q _ ?_, hz⟩
  have hqz : q < zs.length := by rw [hr.1]; exact hq
  rw [← ez]
  simp [List.getD, hqz]
theorem OwTd.len {w : World} {A : Option Addr} {n c : Nat} {bl : List (List (List Nat))} (h : OwTd 0 w (.slice A n c) bl) : n = bl.length ∧ n ≤ c ∧ c ≤ 9223372036854775807 := by
  obtain ⟨zs, ho, hr⟩ := h
  obtain ⟨A', c', e, _⟩ := own_rv ho
  injection e with _ e _
  exact ⟨e, (own_rvv ho).le, (own_rvv ho).cap⟩
set_option maxHeartbeats 1600000 in
set_option maxRecDepth 100000 in
theorem zread_ok {w : World} {v : Value} {bl : List (List (List Nat))} {left : Nat} (h : RdV w v bl false left) {k : Nat} (hk : k < bl.length) (hb : bl.length ≤ 1000000) (hne : bl.getD k [] ≠ []) (hfew : (bl.getD k []).length ≤ 1000000) :
    Calls Try.prog 37 #[v, .int .i64 (k : Int)] w (Ret (fun z _ => z = .tuple #[.string (sb ((bl.getD k []).getLastD z64)), .int .i64 0]) w) := by
  obtain ⟨A, n, c, a, lf, rfl, ho, h3⟩ := h
  clear h3
  obtain ⟨hn, hle, hcp⟩ := ho.len
  obtain ⟨b, o, Az, cz, rfl, kz, rz⟩ := ho.at_ hk
  obtain ⟨l, hl⟩ : ∃ l, bl.getD k [] = l := ⟨_, rfl⟩
  rw [hl] at kz rz hne hfew ⊢
  obtain ⟨m, hm⟩ : ∃ m, l.length = m := ⟨_, rfl⟩
  rw [hm] at kz rz hfew
  have hm0 : 0 < m := by rw [← hm]; exact List.length_pos_iff.2 hne
  obtain ⟨bz, oz, rfl, hc⟩ := rz.at_ (by omega)
  obtain ⟨x, hx⟩ : ∃ x, sb (l.getLastD z64) = x := ⟨_, rfl⟩
  have kx := hc (m - 1) (.string x) (by
    rw [← hx]
    unfold sc
    rw [List.getElem?_map, List.getLastD_eq_getLast?, List.getLast?_eq_getElem?, hm]
    rw [List.getElem?_eq_getElem (by omega)]
    rfl)
  have hkn : k < n := by omega
  have hzle := rz.le
  have hzcp := rz.cap
  rw [hx]
  have kzq := fun w' (hh : Ext w w') => ext_cell hh kz
  have kxq := fun w' (hh : Ext w w') => ext_cell hh kx
  clear ho hl hn hk hb hne hm rz hc hx kz kx
  unfold rdk
  go_enter Try.func37, Try.ntmps37
  go_upto_region 1 with fail
  obtain ⟨H, hH⟩ : ∃ H, w.heap.size = H := ⟨_, rfl⟩
  have x1 : Ext w (w.alloc (.cells #[.slice (some ⟨b, o, none⟩) n c, .bool false, .bool a, .int .i64 lf] TRD)) := Ext.allocR _ _
  refine wp_world (fun W => Ext w W ∧ Blk W H TRD #[.slice (some ⟨b, o, none⟩) n c, .bool false, .bool a, .int .i64 lf]) ⟨x1, Blk.new_ _ _ hH⟩ ?_
  rw [hH]
  rintro W ⟨hx, hb⟩
  have X := Lib.hid hx
  have kz := kzq W hx
  have kx := kxq W hx
  have kb := hb.cells
  simp only [cellsAre, Nat.zero_add, Nat.reduceAdd, and_true] at kb
  have pk : (k : Int) < (n : Int) := by omega
  have pk2 : ¬ (k : Int) < 0 := by omega
  have pk3 : ¬ (n : Int) ≤ (k : Int) := by omega
  have pm : ((m : Int) - 1) = ((m - 1 : Nat) : Int) := by omega
  clear hx hb x1 kzq kxq hH
  go_wp2_with fail
  (try simp only [Exit.inBlock, Exit.then])
  refine bodyPost_ret (v := (.tuple #[.string x, .int .i64 0])) (by simp [results, Try.results37, go_sem, *]) rfl ?_
  exact ⟨_, rfl, rfl, X.out⟩
set_option maxHeartbeats 1600000 in
set_option maxRecDepth 100000 in
theorem zread_dn {w : World} {v : Value} {bl : List (List (List Nat))} {left : Nat} (h : RdV w v bl true left) (k : Int) :
    Calls Try.prog 37 #[v, .int .i64 k] w (Ret (fun z _ => z = .tuple #[.string ⟨#[]⟩, .int .i64 9]) w) := by
  obtain ⟨A, n, c, a, lf, rfl, ho, h3⟩ := h
  clear h3 ho
  unfold rdk
  go_enter Try.func37, Try.ntmps37
  go_wp2
  (try simp only [Exit.inBlock, Exit.then])
  refine bodyPost_ret (v := (.tuple #[.string ⟨#[]⟩, .int .i64 9])) (by simp [results, Try.results37, go_sem, *]) rfl ?_
  exact ⟨_, rfl, rfl, Ext.allocR _ _⟩
set_option maxHeartbeats 1600000 in
set_option maxRecDepth 100000 in
theorem zread_bad {w : World} {v : Value} {bl : List (List (List Nat))} {left : Nat} (h : RdV w v bl false left) (k : Int) (hk : k < 0 ∨ (bl.length : Int) ≤ k) :
    Calls Try.prog 37 #[v, .int .i64 k] w (Ret (fun z _ => z = .tuple #[.string ⟨#[]⟩, .int .i64 1]) w) := by
  obtain ⟨A, n, c, a, lf, rfl, ho, h3⟩ := h
  obtain ⟨hn, hle, hcp⟩ := ho.len
  rw [← hn] at hk
  clear h3 ho hn
  unfold rdk
  go_enter Try.func37, Try.ntmps37
  by_cases h0 : k < 0
  · clear hk
    go_wp2
    (try simp only [Exit.inBlock, Exit.then])
    refine bodyPost_ret (v := (.tuple #[.string ⟨#[]⟩, .int .i64 1])) (by simp [results, Try.results37, go_sem, *]) rfl ?_
    exact ⟨_, rfl, rfl, Ext.allocR _ _⟩
  · have h1 : (n : Int) ≤ k := by omega
    clear hk
    go_wp2
    (try simp only [Exit.inBlock, Exit.then])
    refine bodyPost_ret (v := (.tuple #[.string ⟨#[]⟩, .int .i64 1])) (by simp [results, Try.results37, go_sem, *]) rfl ?_
    exact ⟨_, rfl, rfl, Ext.allocR _ _⟩
end Go.Proofs.Tb
