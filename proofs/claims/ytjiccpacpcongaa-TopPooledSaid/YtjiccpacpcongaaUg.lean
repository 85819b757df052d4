/- Clone, ContainsFunc, divided. -/
import Derived.Test.YtjiccpacpcongaaUd
import Derived.Lib.LazyBuf
set_option linter.unusedVariables false
set_option linter.unusedSimpArgs false
namespace Go.Proofs.Tb
open Go.RowKit Go.Lib
attribute [local go_sem] cell_set_same

set_option maxHeartbeats 6400000 in
set_option maxRecDepth 100000 in
theorem rclone_any (n c b o : Nat) (xs : List Int) (w : World) (h : Rv w 1 (some ⟨b, o, none⟩) n c (ci xs)) (hn : n ≤ 1000000) (hl : xs.length = n) :
    Calls Try.prog 29 #[.slice (some ⟨b, o, none⟩) n c] w (Ret (fun v w' => OwC w.heap.size w' v xs) w) := by
  have hle := h.le
  have hcp := h.cap
  have hq := fun wq => _root_.Go.run_eql_slice_nil (P := Try.prog) wq TLI TIN (some ⟨b, o, none⟩) n c Try.underlying24
  have x1 : Ext w (w.alloc (.cells #[] TIN)) := Ext.allocR _ _
  have hil := h.below x1
  obtain ⟨hn1, hn2, hn3⟩ := hil.news (by omega)
  obtain ⟨v3, w3, hrun, hrow, hgr, hbel⟩ := run_appA (P := Try.prog) TLI TIN _ 1 8 TLI int_info Try.underlying24 rfl (by omega) (by omega) w.heap.size (.slice (some ⟨w.heap.size, 0, none⟩) 0 0) 0 [] (own_lit TIN 1 #[] 0 (Nat.le_refl _) (by omega) rfl) (some ⟨b, o, none⟩) n c (ci xs) hn1 hn2 hn3 (ci_one _) (by omega) hn (by simp)
  rw [Nat.zero_add, List.nil_append] at hrow
  have ho3 : OwC w.heap.size w3 v3 xs := by unfold OwC; rw [hl]; exact hrow
  have x3 : Ext w w3 := (Below.mono (Ext.allocR w (.cells #[] TIN)) (Nat.le_refl _)).trans hbel
  have HO := Lib.hid (And.intro ho3 x3)
  clear hil hn1 hn2 hn3 hrow hgr hbel ho3 x1 x3 h
  go_enter Try.func29, Try.ntmps29
  go_wp2_with (at_builtin; refine Go.Lib.wpList_append_run _ rfl _ _ _ _ rfl (.slice (some ⟨w.heap.size, 0, none⟩) 0 0) (.slice (some ⟨b, o, none⟩) n c) rfl rfl _ _ hrun ?_)
  go_returns
  exact ⟨_, rfl, HO.out.1, HO.out.2⟩
theorem rne0_any (x : Int) (w : World) : Calls Try.prog 36 #[.int .i64 x] w (Ret (fun z _ => z = .bool (x != 0)) w) := by
  go_enter Try.func36, Try.ntmps36
  go_wp2
  go_returns
  exact ⟨_, rfl, rfl, Below.refl _ _⟩
set_option maxHeartbeats 3200000 in
set_option maxRecDepth 100000 in
theorem rindex_any (n c b o : Nat) (w : World) (h : Rv w 1 (some ⟨b, o, none⟩) n c (ci (List.replicate n 0))) (hn : n ≤ 1000000) :
    Calls Try.prog 37 #[.slice (some ⟨b, o, none⟩) n c, .func (.func 36) #[] #[]] w (Ret (fun z _ => z = .int .i64 (-1)) w) := by
  have H := Lib.hid h
  have hle := h.le
  have hcp := h.cap
  clear h
  go_enter Try.func37, Try.ntmps37
  go_wp2_with fail
  go_loopw [8] (fun i wr => ∃ k : Nat, k ≤ n ∧ i = .int .i64 (k : Int) ∧ Ext w wr) (fun i _ => n - (intOf i).toNat)
  case atStart => exact ⟨0, by omega, rfl, Ext.refl _⟩
  case round =>
    obtain ⟨k, hk, rfl, hx⟩ := hrel
    have HX := Lib.hid hx
    clear hx
    obtain ⟨W, rfl⟩ : ∃ W, W = wr := ⟨_, rfl⟩
    by_cases hkn : k < n
    · have pk : (k : Int) < (n : Int) := by omega
      have wk : IntKind.i64.wrap ((k : Int) + 1) = ((k + 1 : Nat) : Int) := by rw [IntWalk.i64_in _ (by omega)]; rfl
      obtain ⟨b', o', e', hc⟩ := H.out.at_ (by omega)
      injection e' with e'
      injection e' with e1 e2
      subst e1 e2
      have k0 := ext_cell HX.out (hc k _ (ci_at (by rw [List.length_replicate]; exact hkn)))
      have e0 : ro (List.replicate n 0) k = 0 := by unfold ro; rw [List.getD_eq_getElem?_getD, List.getElem?_replicate, if_pos hkn]; rfl
      rw [e0] at k0
      clear hc e0
      go_wp2_with fail
      refine (rne0_any 0 W).mono ?_
      rintro e w1 ⟨z, rfl, rfl, b1⟩
      have HX1 := Lib.hid (bt HX.out b1)
      clear b1
      go_wp2_with fail
      exact ⟨⟨k + 1, by omega, by go_num, HX1.out⟩, by simp [intOf]; omega⟩
    · obtain rfl : k = n := by omega
      go_wp2_with fail
      go_returns
      exact ⟨_, rfl, rfl, HX.out⟩
theorem rcontains_any (n c b o : Nat) (w : World) (h : Rv w 1 (some ⟨b, o, none⟩) n c (ci (List.replicate n 0))) (hn : n ≤ 1000000) :
    Calls Try.prog 35 #[.slice (some ⟨b, o, none⟩) n c, .func (.func 36) #[] #[]] w (Ret (fun z _ => z = .bool false) w) := by
  have H := Lib.hid h
  clear h
  go_enter Try.func35, Try.ntmps35
  go_wp2_with fail
  refine (rindex_any n c b o w H.out hn).mono ?_
  rintro e w1 ⟨z, rfl, rfl, b1⟩
  have HX := Lib.hid (show Ext w w1 from b1)
  clear b1
  go_wp2_with fail
  go_returns
  exact ⟨_, rfl, rfl, HX.out⟩
end Go.Proofs.Tb
