/- slices.SortFunc at changes, by key. (With what leads to it, in one text.) -/
import Derived.Shelf.SlSortCmp.WholeK
import Derived.Shelf.SlSortCmp.NoneTotal
import Derived.Shelf.SlLaysF0
import Derived.Lib.Bytealg
import Derived.Test.YtfljnfdeboibhaaGreatDrw
import Derived.Test.YtfljnfdeboibhaaGreatRpb
set_option linter.unusedVariables false
set_option linter.unusedSimpArgs false
namespace Go.Proofs.Tb
open Go.RowKit

section
variable {α : Type}
theorem own_holds [Inhabited α] {w : World} {base g cap n k : Nat} {T : TypeId} {enc : α → List Value} {d : List α} (h : w.ownsRow base T k (.slice (some ⟨g, 0, none⟩) n cap) n (cel enc d)) (hd : d.length = n) (hk : ∀ x, x ∈ d → (enc x).length = k) :
    Go.Sort.HoldsK enc k w g 0 d.toArray := by
  intro j hj
  rw [Go.Sort.size_flatK] at hj
  have hj' : j < n * k := by simpa [hd] using hj
  have k0 : 0 < k := by
    rcases Nat.eq_zero_or_pos k with h | h
    · subst h; simp at hj'
    · exact h
  refine ⟨?_, by rw [Nat.zero_add]; exact h.frozenAt j⟩
  have hi : j / k < d.length := by rw [hd]; exact Nat.div_lt_of_lt_mul (by rw [Nat.mul_comm]; exact hj')
  have h1 := cel_get hk hi (Nat.mod_lt j k0)
  rw [Nat.div_add_mod' j k] at h1
  rw [Nat.zero_add, h.cellAt j hj', Go.Sort.get_flatK _ _ _ _ hj, h1]
  have hl := hk _ (List.getElem_mem hi)
  have hm := Nat.mod_lt j k0
  have e1 : d.toArray[j / k]! = d[j / k] := by simp [getElem!_pos, hi]
  rw [e1, List.getElem?_eq_getElem (by omega), getElem!_pos _ _ (by omega)]
  rfl
theorem own_of_holds [Inhabited α] {w : World} {base g cap n k : Nat} {T : TypeId} {enc : α → List Value} {cs : Array Value} (hb : w.heap[g]? = some (.cells cs T (0, 0))) (hg : base ≤ g) (hs : cs.size = cap * k) (hn : n ≤ cap) (hm : cap ≤ maxLen) (d : Array α) (hd : d.size = n) (hk : ∀ x, (enc x).length = k)
    (h : Go.Sort.HoldsK enc k w g 0 d) : w.ownsRow base T k (.slice (some ⟨g, 0, none⟩) n cap) n (cel enc d.toList) := by
  have hl : (cel enc d.toList).length = n * k := by rw [cel_len fun x _ => hk x]; simp [hd]
  have hnk : n * k ≤ cap * k := Nat.mul_le_mul_right k hn
  refine ⟨hl, .inr ⟨g, cap, cs, rfl, hg, hb, hn, hm, hs, ?_⟩⟩
  apply List.ext_getElem?
  intro j
  rcases Nat.lt_or_ge j (n * k) with hj | hj
  · have k0 : 0 < k := by
      rcases Nat.eq_zero_or_pos k with h | h
      · subst h; simp at hj
      · exact h
    have hi : j / k < n := Nat.div_lt_of_lt_mul (by rw [Nat.mul_comm]; exact hj)
    have hm := Nat.mod_lt j k0
    have h1 := (h.cell (i := j / k) (c := j % k) (by omega) hm).1
    have h2 := cel_get (d := d.toList) (i := j / k) (c := j % k) (fun x _ => hk x) (by simpa [hd] using hi) hm
    rw [Nat.div_add_mod' j k] at h2
    rw [Nat.zero_add, Nat.div_add_mod' j k, cell_of_row _ _ j cs T (0, 0) hb] at h1
    have hlen := hk d[j / k]!
    rw [List.getElem?_take, if_pos hj, Array.getElem?_toList, h1, h2, getElem!_pos _ _ (by omega)]
    have e1 : d.toList[j / k]'(by simpa [hd] using hi) = d[j / k]! := by rw [getElem!_pos d (j / k) (by omega)]; simp
    rw [e1, List.getElem?_eq_getElem (by omega)]
  · rw [List.getElem?_eq_none (by rw [List.length_take]; omega), List.getElem?_eq_none (by omega)]
end
section
variable {α : Type} [Inhabited α] {w : World} {g off m k : Nat} {T : TypeId} {cs : Array Value}
theorem sort_heap (enc : α → List Value) (dk : Array α) (os : Array Obj) (hg : g < w.heap.size) : (∀ i, i < w.heap.size → i ≠ g → (sortWorldK enc k w g off m dk os).heap[i]? = w.heap[i]?) ∧
    (w.heap[g]? = some (.cells cs T (0, 0)) → ∃ cs', (sortWorldK enc k w g off m dk os).heap[g]? = some (.cells cs' T (0, 0)) ∧ cs'.size = cs.size) := by
  have e : ∀ i, i < w.heap.size → (sortWorldK enc k w g off m dk os).heap[i]? = (w.heap.modify g (Go.Sort.onCells (Go.Sort.putCells id off (Go.Sort.flatK enc k dk))))[i]? := fun i hi => by
    unfold sortWorldK Go.Sort.putRowK Go.Sort.putRow Go.Sort.mapBlock
    rw [Go.Sort.heap_grow_old _ _ (by simpa [Go.Sort.ahead] using hi)]
    rfl
  refine ⟨fun i hi hn => ?_, fun hb => ?_⟩
  · rw [e i hi, Array.getElem?_modify, if_neg (Ne.symm hn)]
  · rw [e g hg, Array.getElem?_modify, if_pos rfl, hb]
    exact ⟨_, rfl, by simp [Go.Sort.putCells]⟩
theorem sort_held (enc : α → List Value) (dk : Array α) (os : Array Obj) (hb : w.heap[g]? = some (.cells cs T (0, 0))) : Held g cs.size T w (sortWorldK enc k w g off m dk os) := by
  have hg := block_lt hb
  obtain ⟨h1, h2⟩ := sort_heap (k := k) (off := off) (m := m) (cs := cs) (T := T) enc dk os hg
  exact ⟨⟨rfl, rfl, rfl, Go.Proofs.size_sortWorldK_c enc k w g off m dk os, fun i hi hn => h1 i hi fun e => hn (by rw [e])⟩, ⟨cs, hb, rfl⟩, h2 hb⟩
theorem cmpLays_of {P : Program} {f size : Nat} {enc : α → List Value} {cf : α → α → Int} (hb : w.heap[g]? = some (.cells cs T (0, 0)))
    (h : ∀ W, Held g cs.size T w W → ∀ x y, Calls P f #[.agg (enc x).toArray, .agg (enc y).toArray] W (Ret (fun v _ => v = .int .i64 (cf x y)) W)) : CmpLays P f #[] enc k cf g off size w := by
  intro m os dk _ x y
  rw [Array.append_empty]
  refine (Calls.drawn (h _ (sort_held enc dk os hb) x y)).mono ?_
  rintro e w' ⟨⟨v, he, hv, hbl⟩, hd⟩
  subst hv
  exact ⟨he, below_grow hbl (hd _ he)⟩
end
instance cgInh : Inhabited Cg := ⟨⟨ByteArray.empty, ByteArray.empty, false⟩⟩
/-- A change's cells. -/
def encC (c : Cg) : List Value := [.string c.k, .string c.v, .bool c.gone]
theorem ccs_cel (d : List Cg) : ccs d = cel encC d := rfl
def cfC (x y : Cg) : Int := Lib.compareBytes x.k.data.toList y.k.data.toList
theorem cmpB_neg : ∀ a b : List UInt8, Lib.compareBytes a b < 0 ↔ Op.bytesLess a b = true
  | [], [] => by simp [Lib.compareBytes, Op.bytesLess]
  | [], b :: y => by simp [Lib.compareBytes, Op.bytesLess]
  | a :: x, [] => by simp [Lib.compareBytes, Op.bytesLess]
  | a :: x, b :: y => by
    have ih := cmpB_neg x y
    rw [bl_cons]
    unfold Lib.compareBytes
    by_cases h1 : a < b
    · simp [h1]
    · rw [if_neg h1]
      by_cases h2 : b < a
      · rw [if_pos h2]
        have h3 : a ≠ b := fun e => by subst e; exact h1 h2
        simp [h1, h3]
      · rw [if_neg h2, ih]
        have h3 : a = b := by
          rcases u8_tri a b with h | h | h
          · exact absurd h h1
          · exact h
          · exact absurd h h2
        simp [h3]
theorem cfC_neg (x y : Cg) : cfC x y < 0 ↔ sl x.k y.k = true := by
  unfold cfC sl
  rw [cmpB_neg, ByteArray.toList_eq, ByteArray.toList_eq]
theorem cfC_lt (x y : Cg) : ltOf cfC x y = sl x.k y.k := by
  unfold ltOf
  rw [Bool.eq_iff_iff, decide_eq_true_iff, cfC_neg]
theorem cfC_swo : Go.Sort.SWO (ltOf cfC) where
  irrefl x := by rw [cfC_lt, sl_irrefl]
  trans x y z h1 h2 := by rw [cfC_lt] at *; exact sl_trans h1 h2
  ntrans x y z h1 h2 := by
    rw [cfC_lt] at *
    rcases h : sl x.k z.k with _ | _
    · rfl
    · rcases sl_tri x.k y.k with h' | h' | h'
      · rw [h1] at h'; cases h'
      · rw [h'] at h; rw [h2] at h; cases h
      · have := sl_trans h' h; rw [h2] at this; cases this
set_option maxHeartbeats 1600000 in
set_option maxRecDepth 100000 in
theorem cmpStr_any (a b : Str) (w : World) : Calls Tryz.prog 117 #[.string a, .string b] w (Ret (fun v _ => v = .int .i64 (Lib.compareBytes a.data.toList b.data.toList)) w) := by
  go_enter Tryz.func117, Tryz.ntmps117
  go_wp2
  rw [run_callFunc_extern Tryz.func131 (by kernel_rfl) (by kernel_rfl) (by kernel_rfl) (e := Extern.BytealgCompare.compare) (by kernel_rfl), Lib.run_compareString]
  simp only [Result.andThen]
  rw [Oper.upon_value]
  go_wp2
  go_returns
  exact ⟨_, rfl, rfl, Ext.refl _⟩
set_option maxHeartbeats 1600000 in
set_option maxRecDepth 100000 in
theorem compare_any (a b : Str) (w : World) : Calls Tryz.prog 104 #[.string a, .string b] w (Ret (fun v _ => v = .int .i64 (Lib.compareBytes a.data.toList b.data.toList)) w) := by
  go_enter Tryz.func104, Tryz.ntmps104
  go_wp2_with fail
  refine (cmpStr_any a b w).mono ?_
  rintro e w1 ⟨v, rfl, rfl, b1⟩
  have X1 := Lib.hid (show Ext w w1 from b1)
  clear b1
  go_wp2
  go_returns
  exact ⟨_, rfl, rfl, X1.out⟩
set_option maxHeartbeats 1600000 in
set_option maxRecDepth 100000 in
theorem cmpC_any (x y : Cg) (w : World) : Calls Tryz.prog 103 #[.agg (encC x).toArray, .agg (encC y).toArray] w (Ret (fun v _ => v = .int .i64 (cfC x y)) w) := by
  obtain ⟨xk, xv, xg⟩ := x
  obtain ⟨yk, yv, yg⟩ := y
  show Calls Tryz.prog 103 #[.agg #[.string xk, .string xv, .bool xg], .agg #[.string yk, .string yv, .bool yg]] w (Ret (fun v _ => v = .int .i64 (Lib.compareBytes xk.data.toList yk.data.toList)) w)
  go_enter Tryz.func103, Tryz.ntmps103
  go_upto_region 1 with fail
  have x1 : Ext w ((w.alloc (.cells #[.string xk, .string xv, .bool xg] TCG)).alloc (.cells #[.string yk, .string yv, .bool yg] TCG)) := bt (Ext.allocR _ _) (Ext.allocR _ _)
  refine wp_world (fun W => Ext w W ∧ Blk W w.heap.size TCG #[.string xk, .string xv, .bool xg] ∧ Blk W (w.heap.size + 1) TCG #[.string yk, .string yv, .bool yg]) ⟨x1, (Blk.new_ _ _ rfl).alloc _, Blk.new_ _ _ (by simp)⟩ ?_
  rintro W1 ⟨hx, hb1, hb2⟩
  have k1 := hb1.cells
  have k2 := hb2.cells
  simp only [cellsAre, Nat.zero_add, Nat.reduceAdd, and_true] at k1 k2
  have X1 := Lib.hid hx
  clear x1 hx hb1 hb2
  go_wp2_with fail
  refine (compare_any xk yk W1).mono ?_
  rintro e w2 ⟨v, rfl, rfl, b2⟩
  have X2 := Lib.hid (bt X1.out b2)
  clear b2 k1 k2
  go_wp2
  go_returns
  exact ⟨_, rfl, rfl, X2.out⟩
open Go.Shelf
def sortC_ren : Go.Shelf.Ren := ⟨fun | 6 => 102 | 15 => 116 | 14 => 115 | 28 => 129 | 29 => 130 | 20 => 121 | 21 => 122 | 22 => 123 | 23 => 124 | 24 => 125 | 25 => 126 | 26 => 127 | 27 => 128 | 46 => 141 | 47 => 142 | 48 => 143 | 49 => 144 | 50 => 145 | 57 => 150 | n => n, fun | 22 => 24 | 24 => 68 | 25 => 170 | 3 => 3 | 39 => 112 | 0 => 0 | 53 => 186 | 55 => 198 | 4 => 4 | 46 => 190 | 45 => 189 | 50 => 194 | 5 => 5 | 9 => 9 | 66 => 205 | 70 => 209 | 76 => 213 | 77 => 214 | n => n, fun | n => n⟩
theorem sortC_lay : Go.Proofs.SlLaysF0.n6 Tryz.prog sortC_ren := {
  mixed := by kernel_rfl,
  f6 := ⟨Tryz.f102.name, by decide, Tryz.func102.trans (congrArg some (by kernel_rfl))⟩,
  f14 := ⟨Tryz.f115.name, by decide, Tryz.func115.trans (congrArg some (by kernel_rfl))⟩,
  f15 := Tryz.func116.trans (congrArg some (by kernel_rfl)),
  f20 := ⟨Tryz.f121.name, by decide, Tryz.func121.trans (congrArg some (by kernel_rfl))⟩,
  f21 := ⟨Tryz.f122.name, by decide, Tryz.func122.trans (congrArg some (by kernel_rfl))⟩,
  f22 := ⟨Tryz.f123.name, by decide, Tryz.func123.trans (congrArg some (by kernel_rfl))⟩,
  f23 := ⟨Tryz.f124.name, by decide, Tryz.func124.trans (congrArg some (by kernel_rfl))⟩,
  f24 := ⟨Tryz.f125.name, by decide, Tryz.func125.trans (congrArg some (by kernel_rfl))⟩,
  f25 := ⟨Tryz.f126.name, by decide, Tryz.func126.trans (congrArg some (by kernel_rfl))⟩,
  f26 := ⟨Tryz.f127.name, by decide, Tryz.func127.trans (congrArg some (by kernel_rfl))⟩,
  f27 := ⟨Tryz.f128.name, by decide, Tryz.func128.trans (congrArg some (by kernel_rfl))⟩,
  f28 := Tryz.func129.trans (congrArg some (by kernel_rfl)),
  f29 := Tryz.func130.trans (congrArg some (by kernel_rfl)),
  f46 := ⟨Tryz.f141.name, by decide, Tryz.func141.trans (congrArg some (by kernel_rfl))⟩,
  f47 := Tryz.func142.trans (congrArg some (by kernel_rfl)),
  f48 := Tryz.func143.trans (congrArg some (by kernel_rfl)),
  f49 := ⟨Tryz.f144.name, by decide, Tryz.func144.trans (congrArg some (by kernel_rfl))⟩,
  f50 := ⟨Tryz.f145.name, by decide, Tryz.func145.trans (congrArg some (by kernel_rfl))⟩,
  f57 := ⟨Tryz.f150.name, by decide, Tryz.func150.trans (congrArg some (by kernel_rfl))⟩,
  t0 := Tryz.underlying0,
  a0 := Tryz.isAgg0,
  z0 := Tryz.sizeOf0,
  v0 := Tryz.zeroValue0,
  t3 := Tryz.underlying3,
  a3 := Tryz.isAgg3,
  z3 := Tryz.sizeOf3,
  v3 := Tryz.zeroValue3,
  t4 := Tryz.underlying4,
  a4 := Tryz.isAgg4,
  z4 := Tryz.sizeOf4,
  v4 := Tryz.zeroValue4,
  t5 := Tryz.underlying5,
  a5 := Tryz.isAgg5,
  z5 := Tryz.sizeOf5,
  v5 := Tryz.zeroValue5,
  t9 := Tryz.underlying9,
  a9 := Tryz.isAgg9,
  z9 := Tryz.sizeOf9,
  v9 := Tryz.zeroValue9,
  t22 := Tryz.underlying24,
  a22 := Tryz.isAgg24,
  z22 := Tryz.sizeOf24,
  v22 := Tryz.zeroValue24,
  t25 := Tryz.underlying170,
  a25 := Tryz.isAgg170,
  z25 := Tryz.sizeOf170,
  v25 := Tryz.zeroValue170,
  t39 := Tryz.underlying112,
  a39 := Tryz.isAgg112,
  z39 := Tryz.sizeOf112,
  v39 := Tryz.zeroValue112,
  t45 := Tryz.underlying189,
  a45 := Tryz.isAgg189,
  z45 := Tryz.sizeOf189,
  v45 := Tryz.zeroValue189,
  t46 := Tryz.underlying190,
  a46 := Tryz.isAgg190,
  z46 := Tryz.sizeOf190,
  v46 := Tryz.zeroValue190,
  t50 := Tryz.underlying194,
  a50 := Tryz.isAgg194,
  z50 := Tryz.sizeOf194,
  v50 := Tryz.zeroValue194,
  t53 := Tryz.underlying186,
  a53 := Tryz.isAgg186,
  z53 := Tryz.sizeOf186,
  v53 := Tryz.zeroValue186,
  t55 := Tryz.underlying198,
  a55 := Tryz.isAgg198,
  z55 := Tryz.sizeOf198,
  v55 := Tryz.zeroValue198,
  t66 := Tryz.underlying205,
  a66 := Tryz.isAgg205,
  z66 := Tryz.sizeOf205,
  v66 := Tryz.zeroValue205,
  t70 := Tryz.underlying209,
  a70 := Tryz.isAgg209,
  z70 := Tryz.sizeOf209,
  v70 := Tryz.zeroValue209,
  t76 := Tryz.underlying213,
  a76 := Tryz.isAgg213,
  z76 := Tryz.sizeOf213,
  v76 := Tryz.zeroValue213,
  t77 := Tryz.underlying214,
  a77 := Tryz.isAgg214,
  z77 := Tryz.sizeOf214,
  v77 := Tryz.zeroValue214 }
theorem enterC (args : Array Value) (w : World) : (callFunc 103 args).run Tryz.prog w = .ok (.enter 103 args) w := enters_of Tryz.func103 (by kernel_rfl) rfl args w
set_option maxHeartbeats 3200000 in
set_option maxRecDepth 100000 in
/-- Its row stands sorted behind it; all else is as it was. -/
theorem sortC_any {base : Nat} {w : World} {v : Value} {d : List Cg} (h : OwC base w v d) (hn : d.length ≤ 1000000) :
    Calls Tryz.prog 102 #[v, .func (.func 103) #[] #[]] w (fun e w' => e = .returned (.tuple #[]) ∧ (∃ d' : List Cg, d'.Perm d ∧ d'.Pairwise (fun x y => sl y.k x.k = false) ∧ OwC base w' v d') ∧ w.grownBy w' v.ownBlock) := by
  rcases Nat.eq_zero_or_pos d.length with h0 | h0
  · obtain rfl : d = [] := List.eq_nil_of_length_eq_zero h0
    obtain ⟨A, c, rfl, _⟩ := own_rv h
    refine (AnyF.slices_SortFunc_none sortC_lay A c (.func (.func 103) #[] #[]) w).mono ?_
    rintro e w' ⟨rfl, rfl⟩
    exact ⟨rfl, ⟨[], List.Perm.refl _, List.Pairwise.nil, h⟩, ⟨rfl, rfl, rfl, Nat.le_refl _, fun _ _ _ => rfl⟩⟩
  · rcases h.2 with ⟨_, hz⟩ | ⟨g, cap, cs, rfl, hg, hb, hc1, hc2, hs, ht⟩
    · omega
    · have hH := own_holds (enc := encC) (d := d) (α := Cg) h rfl fun x _ => rfl
      have hlt := block_lt hb
      have hso := AnyQ.slices_SortFunc sortC_lay 3 Tryz.isAgg68 Tryz.sizeOf68 encC (fun _ => rfl) (fun x u hu => by
        unfold encC at hu
        simp only [List.mem_cons, List.not_mem_nil, or_false] at hu
        rcases hu with rfl | rfl | rfl <;> rfl) cfC cfC_swo 103 #[] g 0 cap d.toArray w enterC (cmpLays_of hb fun W _ x y => cmpC_any x y W) hH hlt (by simp; omega)
      rw [List.size_toArray] at hso
      refine hso.mono ?_
      rintro e w' ⟨he, d', n, os, hp, hsd, rfl⟩
      have hs1 : d'.size = d.toArray.size := hp.1
      have hs2 : d'.size = d.length := by simpa using hs1
      have hH' := holdsK_sortWorldK_c encC 3 w g 0 d.toArray d' n os hH hlt hs1
      obtain ⟨cs', hb', hcs⟩ := (sort_heap (k := 3) (off := 0) (m := n) (cs := cs) (T := TCG) encC d' os hlt).2 hb
      have hown := own_of_holds (k := 3) (enc := encC) hb' hg (by rw [hcs]; exact hs) hc1 hc2 d' hs2 (fun _ => rfl) hH'
      refine ⟨he, ⟨d'.toList, ?_, ?_, ?_⟩, (sort_held encC d' os hb).g⟩
      · have h3 := hp.2.2
        have e1 : d'.extract 0 d.length = d' := by rw [← hs2]; exact Array.extract_size
        have e2 : d.toArray.extract 0 d.length = d.toArray := by rw [← List.size_toArray]; exact Array.extract_size
        rw [e1, e2] at h3
        simpa using h3
      · rw [List.pairwise_iff_getElem]
        intro i j hi hj hij
        have hj' : j < d'.size := by simpa using hj
        have hi' : i < d'.size := by simpa using hi
        have h4 := hsd i j (Nat.zero_le _) hij (by omega)
        rw [cfC_lt, getElem!_pos d' j hj', getElem!_pos d' i hi'] at h4
        simpa using h4
      · have e3 : d'.toList.length = d.length := by rw [Array.length_toList, hs2]
        show World.ownsRow _ base TCG 3 (.slice (some ⟨g, 0, none⟩) d.length cap) d'.toList.length (ccs d'.toList)
        rw [e3, ccs_cel]
        exact hown
end Go.Proofs.Tb
