/- Texts of this proof joined: Book0, Sorted, BookGet. -/
import Derived.Test.YtplbcbamnjnhlaaGreatDoorMB21
import Derived.Test.YtplbcbamnjnhlaaGreatDoorMB17
import Derived.Test.YtplbcbamnjnhlaaGreatDoorMB09
import Derived.Test.YtplbcbamnjnhlaaGreatDoorSort
import Derived.Shelf.SlSortCmp.NoneTotal
import Derived.Sort.OwnSorted
import Derived.Test.YtplbcbamnjnhlaaGreatDoorMB10
namespace Go.Proofs.YtplbcbamnjnhlaaGreatDoor
open Go.RowKit

def ivCells (p : K32 × K32) : List Value := hkCells p.1.1.1 p.1.1.2 ++ hkCells p.2.1.1 p.2.1.2
def iv (p : K32 × K32) : Value := .agg (ivCells p).toArray
def liveP (l : List (K32 × K32)) : List (K32 × Value) := l.map fun q => (q.1, kv q.2)
def pinsP (l : List K32) : List (K32 × Value) := l.map fun k => (k, .int .i64 1)
def intsP (l : List (Int × (K32 × K32))) : List (Int × Value) := l.map fun i => (i.1, iv i.2)
def bookCells (b : BookD) (g : Nat) : Array Value := #[.bool b.head, .map (some g), .map (some (g + 1)), .map (some (g + 2)), .int .i64 b.next]
structure BookIn (w : World) (g : Nat) (b : BookD) (lm lp : List (K32 × Value)) (li : List (Int × Value)) : Prop where
  row : w.heap[g + 3]? = some (.cells (bookCells b g) 74 (0, 0))
  live : MapS kv w g lm
  pins : MapS kv w (g + 1) lp
  ints : MapS (Value.int .i64) w (g + 2) li
  lm_ : lm.Perm (liveP b.live)
  lp_ : lp.Perm (pinsP b.pins)
  li_ : li.Perm (intsP b.ints)
def BookAt (w : World) (g : Nat) (b : BookD) : Prop := ∃ lm lp li, BookIn w g b lm lp li
abbrev bptr (g : Nat) : Value := .pointer (some ⟨g + 3, 0, none⟩)
theorem BookAt.lt {w : World} {g : Nat} {b : BookD} (h : BookAt w g b) : g + 3 < w.heap.size := by
  obtain ⟨lm, lp, li, h⟩ := h
  exact (Array.getElem?_eq_some_iff.1 h.row).1
theorem BookAt.below {w w' : World} {g N : Nat} {b : BookD} (h : BookAt w g b) (hb : Below N w w') (hN : g + 3 < N) : BookAt w' g b := by
  obtain ⟨lm, lp, li, h⟩ := h
  exact ⟨lm, lp, li, (hb.block _ hN).trans h.row, h.live.below hb (by omega), h.pins.below hb (by omega), h.ints.below hb (by omega), h.lm_, h.lp_, h.li_⟩
structure Beside (g : Nat) (w w' : World) : Prop where
  os : w'.os = w.os
  tape : w'.tape = w.tape
  output : w'.output = w.output
  size : w.heap.size ≤ w'.heap.size
  block : ∀ k, k < w.heap.size → (k < g ∨ g + 4 ≤ k) → w'.heap[k]? = w.heap[k]?
theorem Beside.refl (g : Nat) (w : World) : Beside g w w := ⟨rfl, rfl, rfl, Nat.le_refl _, fun _ _ _ => rfl⟩
theorem Beside.trans {g : Nat} {a b c : World} (h : Beside g a b) (k : Beside g b c) : Beside g a c :=
  ⟨k.os.trans h.os, k.tape.trans h.tape, k.output.trans h.output, Nat.le_trans h.size k.size, fun i hi ho => (k.block i (Nat.lt_of_lt_of_le hi h.size) ho).trans (h.block i hi ho)⟩
theorem Beside.of_below {g : Nat} {w w' : World} (h : Below w.heap.size w w') : Beside g w w' := ⟨h.os, h.tape, h.output, h.size, fun k hk _ => h.block k hk⟩
theorem Beside.below {g N : Nat} {w w' : World} (h : Beside g w w') (hN : N ≤ g) (hs : N ≤ w.heap.size) : Below N w w' := ⟨h.os, h.tape, h.output, h.size, fun k hk => h.block k (Nat.lt_of_lt_of_le hk hs) (Or.inl (Nat.lt_of_lt_of_le hk hN))⟩
theorem Beside.grown {g : Nat} {w0 w w' : World} {row : Option Nat} (h : Beside g w0 w) (hg : w.grownBy w' row) (hr : ∀ k, row = some k → g ≤ k ∧ k < g + 4 ∨ w0.heap.size ≤ k) : Beside g w0 w' :=
  ⟨hg.os.trans h.os, hg.tape.trans h.tape, hg.output.trans h.output, Nat.le_trans h.size hg.size, fun k hk ho => (hg.block k (Nat.lt_of_lt_of_le hk h.size) (fun he => by
    rcases hr k he.symm with h1 | h1 <;> omega)).trans (h.block k hk ho)⟩

theorem map_live : Tryz.prog.underlying 70 = some (.map 34 36) := by kernel_rfl
theorem map_pins : Tryz.prog.underlying 71 = some (.map 34 3) := by kernel_rfl
theorem map_ints : Tryz.prog.underlying 72 = some (.map 3 76) := by kernel_rfl
theorem liveK : KeyTy Tryz.prog 70 34 36 kv := keyTy_hk keyTy map_live
theorem pinsK : KeyTy Tryz.prog 71 34 3 kv := keyTy_hk keyTy map_pins
theorem intsK : KeyTy Tryz.prog 72 3 76 (Value.int .i64) := keyTy_int map_ints (by kernel_rfl)
theorem build_book (w : World) (g : Nat) : (Instr.build 74 #[(1, .map (some g)), (2, .map (some (g + 1))), (3, .map (some (g + 2)))]).run Tryz.prog w = .ok (.agg (bookCells book0 g)) w := by
  simp [Instr.build, go_sem]
  kernel_rfl
set_option maxRecDepth 100000 in
theorem new_any (w : World) : Calls Tryz.prog 8 #[] w fun e w' => e = .returned (bptr w.heap.size) ∧ BookAt w' w.heap.size book0 ∧ Below w.heap.size w w' ∧ w'.heap.size = w.heap.size + 4 := by
  go_enter Tryz.func8, Tryz.ntmps8
  go_wp2_with (refine stop_at (some 1) rfl ?_)
  refine Stop.go (wpList_makeMap 70 rfl rfl ?_)
  refine wpList_makeMap 71 rfl rfl ?_
  refine wpList_makeMap 72 rfl rfl ?_
  have s1 : (w.alloc (.map #[] 0)).heap.size = w.heap.size + 1 := Array.size_push _
  have s2 : ((w.alloc (.map #[] 0)).alloc (.map #[] 0)).heap.size = w.heap.size + 2 := by rw [World.size_alloc, s1]
  have s3 : (((w.alloc (.map #[] 0)).alloc (.map #[] 0)).alloc (.map #[] 0)).heap.size = w.heap.size + 3 := by rw [World.size_alloc, s2]
  have H1 := Lib.hid (MapS.made (κ := kv) w)
  have H2 := Lib.hid (MapS.made (κ := kv) (w.alloc (.map #[] 0)))
  have H3 := Lib.hid (MapS.made (κ := Value.int .i64) ((w.alloc (.map #[] 0)).alloc (.map #[] 0)))
  have HB := Lib.hid ((((Below.refl w.heap.size w).alloc (Nat.le_refl _) (.map #[] 0)).alloc (by rw [s1]; omega) (.map #[] 0)).alloc (by rw [s2]; omega) (.map #[] 0))
  have HM1 := Lib.hid ((H1.out.alloc (.map #[] 0)).alloc (.map #[] 0))
  have HM2 := Lib.hid (H2.out.alloc (.map #[] 0))
  rw [s1] at HM2
  rw [s1, s2]
  rw [s2] at H3
  have HS3 := Lib.hid s3
  clear s1 s2 s3 H1 H2
  generalize (((w.alloc (.map #[] 0)).alloc (.map #[] 0)).alloc (.map #[] 0)) = w3 at *
  generalize hac : Act.put _ _ _ = a9
  simp [Act.put] at hac
  subst hac
  refine wpList_build rfl 74 rfl (vs := #[(1, .map (some w.heap.size)), (2, .map (some (w.heap.size + 1))), (3, .map (some (w.heap.size + 2)))]) (by rfl) (build_book _ _) ?_
  refine wpList_box rfl 74 rfl rfl (vs := (bookCells book0 w.heap.size).toList) rfl ?_
  rw [HS3.out]
  generalize hac : Act.put _ _ _ = a9
  simp [Act.put] at hac
  subst hac
  have HR := Lib.hid (Go.heap_alloc_new w3 (.cells (bookCells book0 w.heap.size) 74))
  rw [HS3.out] at HR
  go_wp2_with fail
  go_ret
  refine ⟨rfl, ⟨[], [], [], HR.out, HM1.out.alloc _, HM2.out.alloc _, H3.out.alloc _, List.Perm.refl _, List.Perm.refl _, List.Perm.refl _⟩, HB.out.alloc HB.out.size _, ?_⟩
  rw [World.size_alloc, HS3.out]

def cmpK (x y : K32) : Int := if kless x y then -1 else if kless y x then 1 else 0
set_option maxRecDepth 100000 in
set_option maxHeartbeats 400000 in
theorem cmp_any (x y : K32) (w : World) : Calls Tryz.prog 72 #[kv x, kv y] w fun e w' => e = .returned (.int .i64 (cmpK x y)) ∧ ∃ q os', w' = Go.Sort.grow (w.drewN q) os' := by
  have H : Calls Tryz.prog 72 #[hkv x.1.1 x.1.2, hkv y.1.1 y.1.2] w fun e w' => e = .returned (.int .i64 (cmpK x y)) ∧ Below w.heap.size w w' ∧ w.drawn ≤ w'.drawn := by
    have hx := x.2
    have hy := y.2
    have HX := Lib.hid hx
    have HY := Lib.hid hy
    clear hx hy
    go_enter Tryz.func72, Tryz.ntmps72
    go_wp2_with (refine stop_at (some 6) rfl ?_)
    have HG1 := Lib.hid (row_cells (Go.heap_alloc2_old w (.cells (hkCells x.1.1 x.1.2).toArray 34) (.cells (hkCells y.1.1 y.1.2).toArray 34)))
    have HG2 := Lib.hid (row_cells (Go.heap_alloc2_new w (.cells (hkCells x.1.1 x.1.2).toArray 34) (.cells (hkCells y.1.1 y.1.2).toArray 34)))
    have HB := Lib.hid (((Below.refl _ _).alloc (Nat.le_refl _) (.cells (hkCells x.1.1 x.1.2).toArray 34)).alloc (by rw [World.size_alloc]; omega) (.cells (hkCells y.1.1 y.1.2).toArray 34) : Below w.heap.size w _)
    have HSZ := Lib.hid (show ((w.alloc (.cells (hkCells x.1.1 x.1.2).toArray 34)).alloc (.cells (hkCells y.1.1 y.1.2).toArray 34)).heap.size = w.heap.size + 2 by rw [World.size_alloc, World.size_alloc])
    have HD := Lib.hid (show ((w.alloc (.cells (hkCells x.1.1 x.1.2).toArray 34)).alloc (.cells (hkCells y.1.1 y.1.2).toArray 34)).drawn = w.drawn from rfl)
    generalize ((w.alloc (.cells (hkCells x.1.1 x.1.2).toArray 34)).alloc (.cells (hkCells y.1.1 y.1.2).toArray 34)) = w1 at *
    refine Stop.go (wpList_load_agg rfl 34 rfl rfl keyTy.ut rfl (key_size _ _ HX.out) HG1.out ?_)
    refine wpList_load_agg rfl 34 rfl rfl keyTy.ut rfl (key_size _ _ HY.out) HG2.out ?_
    generalize hac : Act.put _ _ _ = a9
    simp [Act.put] at hac
    subst hac
    go_wp2_with fail
    refine (keyLess_anyD x.1.1 y.1.1 x.1.2 y.1.2 w1 HX.out HY.out).mono ?_
    rintro e w2 ⟨rfl, hb2, hd2⟩
    have HB2 := Lib.hid (HB.out.trans (hb2.mono HB.out.size))
    have HD2 := Lib.hid (show w.drawn ≤ w2.drawn by rw [← HD.out]; exact hd2)
    have HG12 := Lib.hid (fun j u hu => (hb2.cell (p := ⟨w.heap.size, 0 + j, none⟩) (by rw [HSZ.out]; show w.heap.size < _; omega)).trans (HG1.out j u hu))
    have HG22 := Lib.hid (fun j u hu => (hb2.cell (p := ⟨w.heap.size + 1, 0 + j, none⟩) (by rw [HSZ.out]; show w.heap.size + 1 < _; omega)).trans (HG2.out j u hu))
    clear hb2 hd2
    rcases Bool.eq_false_or_eq_true (keyLess x.1.1 x.1.2 y.1.1 y.1.2) with hl | hl
    · have HC := Lib.hid (show cmpK x y = -1 by unfold cmpK kless; rw [hl]; rfl)
      rw [hl]
      go_wp2_with fail
      go_ret
      exact ⟨rt1 (vint HC.out.symm), HB2.out, HD2.out⟩
    · have HL := Lib.hid hl
      rw [hl]
      go_wp2_with (refine stop_at (some 10) rfl ?_)
      refine Stop.go (wpList_load_agg rfl 34 rfl rfl keyTy.ut rfl (key_size _ _ HY.out) HG22.out ?_)
      refine wpList_load_agg rfl 34 rfl rfl keyTy.ut rfl (key_size _ _ HX.out) HG12.out ?_
      generalize hac : Act.put _ _ _ = a9
      simp [Act.put] at hac
      subst hac
      go_wp2_with fail
      refine (keyLess_anyD y.1.1 x.1.1 y.1.2 x.1.2 w2 HY.out HX.out).mono ?_
      rintro e w3 ⟨rfl, hb3, hd3⟩
      have HB3 := Lib.hid (HB2.out.trans (hb3.mono HB2.out.size))
      have HD3 := Lib.hid (Nat.le_trans HD2.out hd3)
      clear hb3 hd3
      rcases Bool.eq_false_or_eq_true (keyLess y.1.1 y.1.2 x.1.1 x.1.2) with hl2 | hl2
      · have HC := Lib.hid (show cmpK x y = 1 by unfold cmpK kless; rw [HL.out, hl2]; rfl)
        rw [hl2]
        go_wp2_with fail
        go_ret
        exact ⟨rt1 (vint HC.out.symm), HB3.out, HD3.out⟩
      · have HC := Lib.hid (show cmpK x y = 0 by unfold cmpK kless; rw [HL.out, hl2]; rfl)
        rw [hl2]
        go_wp2_with fail
        go_ret
        exact ⟨rt1 (vint HC.out.symm), HB3.out, HD3.out⟩
  exact H.mono fun e w' ⟨he, hb, hd⟩ => ⟨he, grown_of hb hd⟩
end Go.Proofs.YtplbcbamnjnhlaaGreatDoor
namespace Go.Proofs.YtplbcbamnjnhlaaGreatDoor
open Go.RowKit Go.Sort

def encK (k : K32) : List Value := hkCells k.1.1 k.1.2
def kcells (ks : List K32) : List Value := ks.flatMap encK
theorem encK_len (k : K32) : (encK k).length = 33 := by unfold encK; rw [hkCells_length, k.2]
theorem kcells_len (ks : List K32) : (kcells ks).length = ks.length * 33 := by
  induction ks with
  | nil => rfl
  | cons k r ih => unfold kcells at *; rw [List.flatMap_cons, List.length_append, ih, encK_len, List.length_cons, Nat.add_mul]; omega
theorem kcells_get : ∀ (ks : List K32) (t : Nat), t < ks.length * 33 → (kcells ks)[t]? = some ((encK (ks.toArray[t / 33]!))[t % 33]!)
  | [], t, h => by simp at h
  | k :: r, t, h => by
    unfold kcells
    rw [List.flatMap_cons]
    by_cases ht : t < 33
    · rw [List.getElem?_append_left (by rw [encK_len]; exact ht), Nat.div_eq_of_lt ht, Nat.mod_eq_of_lt ht]
      have hl : t < (encK k).length := by rw [encK_len]; exact ht
      simp [hl]
    · rw [List.getElem?_append_right (by rw [encK_len]; omega), encK_len]
      have ih := kcells_get r (t - 33) (by rw [List.length_cons, Nat.add_mul] at h; omega)
      unfold kcells at ih
      rw [ih]
      have e1 : t / 33 = (t - 33) / 33 + 1 := by omega
      have e2 : t % 33 = (t - 33) % 33 := by omega
      rw [e1, e2]
      have hlt : (t - 33) / 33 < r.length := by rw [List.length_cons, Nat.add_mul] at h; omega
      simp [hlt]
theorem flatK_list (ks : List K32) : (flatK encK 33 ks.toArray).toList = kcells ks := by
  apply List.ext_getElem?
  intro t
  by_cases h : t < ks.length * 33
  · rw [kcells_get ks t h, Array.getElem?_toList]
    have h' : t < ks.toArray.size * 33 := by simpa using h
    have hs : t < (flatK encK 33 ks.toArray).size := by rw [size_flatK]; exact h'
    have := get_flatK encK 33 ks.toArray t h'
    rw [getElem!_pos _ t hs] at this
    rw [Array.getElem?_eq_getElem hs, this]
  · rw [List.getElem?_eq_none (by rw [Array.length_toList, size_flatK]; simpa using h), List.getElem?_eq_none (by rw [kcells_len]; omega)]
theorem ltOf_cmp (x y : K32) : ltOf cmpK x y = kless x y := by
  unfold ltOf cmpK
  cases kless x y
  · simp only [Bool.false_eq_true, if_false]
    cases kless y x <;> rfl
  · rfl
theorem swoK : SWO (ltOf cmpK) where
  irrefl := fun x => by rw [ltOf_cmp]; exact kless_self x
  trans := fun x y z h1 h2 => by rw [ltOf_cmp] at *; exact kless_trans h1 h2
  ntrans := fun x y z h1 h2 => by rw [ltOf_cmp] at *; exact kless_ntrans h1 h2
theorem holds_keys {w : World} {g : Nat} {cur : Array Value} {e : TypeId} {ks : List K32} (hb : w.heap[g]? = some (.cells cur e (0, 0))) (ht : cur.toList.take (ks.length * 33) = kcells ks) : HoldsK encK 33 w g 0 ks.toArray := by
  intro j hj
  have hj' : j < ks.length * 33 := by simpa using hj
  refine ⟨?_, by simp [World.frozen?, hb]⟩
  have h1 : (cur.toList.take (ks.length * 33))[j]? = (flatK encK 33 ks.toArray).toList[j]? := by rw [ht, flatK_list]
  rw [List.getElem?_take_of_lt hj', Array.getElem?_toList, Array.getElem?_toList, Array.getElem?_eq_getElem hj] at h1
  rw [getElem!_pos _ j hj]
  simp only [World.cell?, hb, Nat.zero_add]
  simp only [Option.isSome_none, Bool.false_eq_true, if_false]
  rw [h1]
  rfl
theorem heap_sortedK {w : World} {g n : Nat} {os : Array Obj} {cur : Array Value} {e : TypeId} {fr : Nat × Nat} (F : Array Value) (hb : w.heap[g]? = some (.cells cur e fr)) :
    (Go.Sort.grow (putRow id (Sort.ahead w n) g 0 F) os).heap[g]? = some (.cells (putCells id 0 F cur) e fr) := by
  have hg : g < w.heap.size := (Array.getElem?_eq_some_iff.1 hb).1
  rw [heap_grow_old _ _ (by simpa using hg)]
  simp [putRow, mapBlock, Sort.ahead, Array.getElem?_modify, hb, onCells]
theorem grownBy_sortedK {w : World} {g n : Nat} {os : Array Obj} (F : Array Value) : w.grownBy (Go.Sort.grow (putRow id (Sort.ahead w n) g 0 F) os) (some g) := by
  refine ⟨rfl, rfl, rfl, by simp, fun k hk hne => ?_⟩
  rw [heap_grow_old _ _ (by simpa using hk)]
  have : g ≠ k := fun e => hne (by rw [e])
  simp [putRow, mapBlock, Sort.ahead, Array.getElem?_modify, this]
theorem take_putCellsK (cur F : Array Value) (h : F.size ≤ cur.size) : (putCells id 0 F cur).toList.take F.size = F.toList := by
  apply List.ext_getElem?
  intro j
  by_cases hj : j < F.size
  · rw [List.getElem?_take_of_lt hj, Array.getElem?_toList]
    simp [putCells, hj, show j < cur.size by omega]
  · rw [List.getElem?_take_eq_none (by omega), List.getElem?_eq_none (by simp; omega)]
theorem isAgg_key (w : World) : (isAgg 34).run Tryz.prog w = .ok true w := by
  unfold isAgg
  rw [Sem.run_bind, run_underlying keyTy.ut w]
  rfl
theorem sizeOf_key (w : World) : (Go.sizeOf 34).run Tryz.prog w = .ok 33 w := by kernel_rfl
def SortedTo (base : Nat) (v : Value) (ks : List K32) (w : World) (e : Ending) (w' : World) : Prop :=
  ∃ ks', e = .returned v ∧ ks'.Perm ks ∧ ks'.Pairwise (fun a b => kless b a = false) ∧ w'.ownsRow base 34 33 v ks'.length (kcells ks') ∧ w.grownBy w' v.ownBlock
set_option maxRecDepth 100000 in
set_option maxHeartbeats 1000000 in
theorem sorted_any (base : Nat) (v : Value) (ks : List K32) (w : World) (h : w.ownsRow base 34 33 v ks.length (kcells ks)) (hn : ks.length < 4611686018427387904) :
    Calls Tryz.prog 51 #[v] w (SortedTo base v ks w) := by
  obtain ⟨A, c, rfl, hc1, hc2⟩ := own_form h
  have eg : ∀ args w, (callFunc 72 args).run Tryz.prog w = .ok (.enter 72 args) w := enters_of Tryz.func72 (by kernel_rfl) rfl
  have HH := Lib.hid h
  have hcon : Calls Tryz.prog 71 #[.slice A ks.length c, .func (.func 72) #[] #[]] w fun e w' => e = .returned (.tuple #[]) ∧ SortedTo base (.slice A ks.length c) ks w (.returned (.slice A ks.length c)) w' := by
    rcases HH.out.2 with ⟨hnil, h0⟩ | ⟨g, cap, cur, hv, hbase, hb, h1, h2, h3, h4⟩
    · injection hnil with e1 e2 e3
      subst e1
      rw [h0]
      refine (AnyF.slices_SortFunc_none { Tryz.sortLay with } none c _ w).mono fun e w' ⟨he, hw⟩ => ⟨he, ks, rfl, List.Perm.refl _, ?_, ?_, ?_⟩
      · rw [List.eq_nil_of_length_eq_zero h0]; exact List.Pairwise.nil
      · subst hw; have := HH.out; rw [h0] at this; rw [h0]; exact this
      · subst hw; exact ⟨rfl, rfl, rfl, Nat.le_refl _, fun _ _ _ => rfl⟩
    · injection hv with e1 e2 e3
      subst e1 e3
      have hH := holds_keys hb h4
      have hgl : g < w.heap.size := (Array.getElem?_eq_some_iff.1 hb).1
      have := AnyQ.slices_SortFunc Tryz.sortLay 33 isAgg_key sizeOf_key encK encK_len (fun k u hu => hkCells_one _ _ u hu) cmpK swoK 72 #[] g 0 c ks.toArray w eg (fun m os dk hdk x y => cmp_any x y _) hH hgl (by simpa using hn)
      simp only [List.size_toArray] at this
      refine Calls.mono this fun e w' ⟨he, d', n, os, hp, hs, hw⟩ => ⟨he, d'.toList, rfl, ?_, ?_, ?_, ?_⟩
      · obtain ⟨p1, _, p3⟩ := hp
        have e1 : d'.extract 0 ks.length = d' := by
          apply Array.extract_eq_self_of_le; rw [p1]; simp
        have e2 : ks.toArray.extract 0 ks.length = ks.toArray := by
          apply Array.extract_eq_self_of_le; simp
        rw [e1, e2] at p3
        simpa using p3
      · rw [List.pairwise_iff_getElem]
        intro i j hi hj hij
        have hsz : d'.size = ks.length := by rw [hp.1]; simp
        have := hs i j (Nat.zero_le _) hij (by rw [← hsz]; simpa using hj)
        rw [ltOf_cmp] at this
        have hj' : j < d'.size := by simpa using hj
        have hi' : i < d'.size := by simpa using hi
        rw [getElem!_pos d' j hj', getElem!_pos d' i hi'] at this
        simpa using this
      · have hsz : d'.toList.length = ks.length := by rw [Array.length_toList, hp.1]; simp
        subst hw
        have hF : (flatK encK 33 d') = (flatK encK 33 d'.toList.toArray) := by simp
        rw [hsz]
        refine ⟨by rw [kcells_len, hsz], .inr ⟨g, c, _, rfl, hbase, heap_sortedK _ hb, h1, h2, by simp [putCells, h3], ?_⟩⟩
        have hfs : (flatK encK 33 d').size = ks.length * 33 := by rw [size_flatK, hp.1]; simp
        have := take_putCellsK cur (flatK encK 33 d') (by rw [hfs, h3]; exact Nat.mul_le_mul_right 33 h1)
        rw [hfs] at this
        rw [this, hF, flatK_list]
      · subst hw
        exact grownBy_sortedK _
  have HC := Lib.hid hcon
  clear h hcon HH
  go_enter Tryz.func51, Tryz.ntmps51
  go_wp2_with fail
  refine HC.out.mono ?_
  rintro e w' ⟨rfl, hs⟩
  have HS := Lib.hid hs
  clear hs
  go_wp2_with fail
  go_ret
  exact HS.out
end Go.Proofs.YtplbcbamnjnhlaaGreatDoor
namespace Go.Proofs.YtplbcbamnjnhlaaGreatDoor
open Go.RowKit

theorem BookIn.live_cell {w : World} {g : Nat} {b : BookD} {lm lp : List (K32 × Value)} {li : List (Int × Value)} (h : BookIn w g b lm lp li) : w.cell? ⟨g + 3, 1, none⟩ = some (.map (some g)) := by rw [cell_of_row _ _ _ _ _ _ h.row]; rfl
theorem BookIn.pins_cell {w : World} {g : Nat} {b : BookD} {lm lp : List (K32 × Value)} {li : List (Int × Value)} (h : BookIn w g b lm lp li) : w.cell? ⟨g + 3, 2, none⟩ = some (.map (some (g + 1))) := by rw [cell_of_row _ _ _ _ _ _ h.row]; rfl
theorem BookIn.ints_cell {w : World} {g : Nat} {b : BookD} {lm lp : List (K32 × Value)} {li : List (Int × Value)} (h : BookIn w g b lm lp li) : w.cell? ⟨g + 3, 3, none⟩ = some (.map (some (g + 2))) := by rw [cell_of_row _ _ _ _ _ _ h.row]; rfl
theorem BookIn.head_cell {w : World} {g : Nat} {b : BookD} {lm lp : List (K32 × Value)} {li : List (Int × Value)} (h : BookIn w g b lm lp li) : w.cell? ⟨g + 3, 0, none⟩ = some (.bool b.head) := by rw [cell_of_row _ _ _ _ _ _ h.row]; rfl
theorem BookIn.next_cell {w : World} {g : Nat} {b : BookD} {lm lp : List (K32 × Value)} {li : List (Int × Value)} (h : BookIn w g b lm lp li) : w.cell? ⟨g + 3, 4, none⟩ = some (.int .i64 b.next) := by rw [cell_of_row _ _ _ _ _ _ h.row]; rfl
theorem headed_any (g : Nat) (b : BookD) (w : World) (h : BookAt w g b) : Calls Tryz.prog 14 #[bptr g] w fun e w' => e = .returned (.bool b.head) ∧ w = w' := by
  obtain ⟨lm, lp, li, h⟩ := h
  have hc := h.head_cell
  obtain ⟨hd, hhd⟩ : ∃ hd, hd = b.head := ⟨_, rfl⟩
  rw [← hhd] at hc
  clear h
  go_enter Tryz.func14, Tryz.ntmps14
  go_wp2_with fail
  go_ret
  exact ⟨rfl, rfl⟩
theorem next_any (g : Nat) (b : BookD) (w : World) (h : BookAt w g b) : Calls Tryz.prog 16 #[bptr g] w fun e w' => e = .returned (.int .i64 b.next) ∧ w = w' := by
  obtain ⟨lm, lp, li, h⟩ := h
  have hc := h.next_cell
  obtain ⟨hd, hhd⟩ : ∃ hd, hd = b.next := ⟨_, rfl⟩
  rw [← hhd] at hc
  clear h
  go_enter Tryz.func16, Tryz.ntmps16
  go_wp2_with fail
  go_ret
  exact ⟨rfl, rfl⟩
theorem intents_any (g : Nat) (b : BookD) (w : World) (h : BookAt w g b) : Calls Tryz.prog 15 #[bptr g] w fun e w' => e = .returned (.int .i64 b.ints.length) ∧ w = w' := by
  obtain ⟨lm, lp, li, h⟩ := h
  have hc := h.ints_cell
  have HM := Lib.hid h.ints
  have HL := Lib.hid (show li.length = b.ints.length by rw [h.li_.length_eq]; simp [intsP])
  clear h
  go_enter Tryz.func15, Tryz.ntmps15
  go_wp2_with (refine stop_at (some 9) rfl ?_)
  refine Stop.go (wpList_lenS intsK rfl rfl rfl HM.out ?_)
  rw [HL.out]
  generalize hac : Act.put _ _ _ = a9
  simp [Act.put] at hac
  subst hac
  go_wp2_with fail
  go_ret
  exact ⟨rfl, rfl⟩

def vlen : Value → Nat
  | .slice _ n _ => n
  | _ => 0
theorem key_infoB (h : List UInt8) (k : Int) (hh : h.length = 32) : (Tryz.prog.info? 34).map (fun i => (i.zero, i.size)) = some (some (hkv z32 0), (hkCells h k).length) := by rw [hkCells_length, hh]; kernel_rfl
theorem sorted_keys {ks m : List K32} (hp : ks.Perm m) (h1 : m.Pairwise fun a b => kless a b = true) (h2 : ∀ k ∈ m, okK k) (h3 : ks.Pairwise fun a b => kless b a = false) : ks = m := by
  refine hp.eq_of_pairwise (le := fun a b => kless b a = false) ?_ h3 (h1.imp fun h => kless_asymm h)
  intro a b ha hb hab hba
  exact kless_total (h2 a (hp.mem_iff.1 ha)) (h2 b hb) hba hab
theorem live_pair {b : BookD} (h : Good b) : (b.live.map (·.1)).Pairwise fun x y => kless x y = true := by rw [List.pairwise_map]; exact h.live
theorem live_ok {b : BookD} (h : Good b) : ∀ k ∈ b.live.map (·.1), okK k := by
  intro k hk
  obtain ⟨p, hp, rfl⟩ := List.mem_map.1 hk
  exact (h.lok p hp).1
theorem liveP_keys (l : List (K32 × K32)) : (liveP l).map (·.1) = l.map (·.1) := by simp [liveP, Function.comp_def]
theorem pinsP_keys (l : List K32) : (pinsP l).map (·.1) = l := by simp [pinsP, Function.comp_def]
def KeysTo (ks : List K32) (w : World) (e : Ending) (w' : World) : Prop := ∃ v, e = .returned v ∧ w'.ownsRow w.heap.size 34 33 v ks.length (kcells ks) ∧ Below w.heap.size w w'

set_option maxRecDepth 100000 in
set_option maxHeartbeats 4000000 in
theorem live_any (g : Nat) (b : BookD) (w : World) (h : BookAt w g b) (hg : Good b) (hl : b.live.length ≤ 1000000000) :
    Calls Tryz.prog 26 #[bptr g] w (KeysTo (b.live.map (·.1)) w) := by
  have HGD := Lib.hid hg
  have hglt := h.lt
  obtain ⟨lm, lp, li, h⟩ := h
  have hc := h.live_cell
  have HM := Lib.hid h.live
  have HPM := Lib.hid h.lm_
  have HLN := Lib.hid (show lm.length ≤ 1000000000 by rw [h.lm_.length_eq]; simpa [liveP] using hl)
  clear h hg hl
  generalize lm = l at *
  go_enter Tryz.func26, Tryz.ntmps26
  go_wp2_with (refine stop_at (some 11) rfl ?_)
  refine Stop.go (wpList_rangeS liveK rfl rfl rfl HM.out ?_)
  intro w1 hr1 hg1 hs1
  have HB1 := Lib.hid ((Below.refl w.heap.size w).grown hg1 (Nat.le_refl _) (fun k hk => by cases hk))
  have HR1 := Lib.hid hr1
  clear hr1 hg1 hs1
  generalize hac : Act.put _ _ _ = a9
  simp [Act.put] at hac
  subst hac
  go_wp2_with fail
  go_loopw [3] (fun v3 wr => ∃ (out : List (K32 × Value)) (A3 : Option Addr) (c3 : Nat), v3 = .slice A3 out.length c3 ∧ Hid (Ranging kv wr w.heap.size (g) l out) ∧
    Hid (wr.ownsRow w.heap.size 34 33 (.slice A3 out.length c3) out.length (kcells (out.map (·.1)))) ∧ Hid (Below w.heap.size w wr)) (fun v3 _ => l.length - vlen v3)
  case atStart => exact ⟨[], none, 0, rfl, HR1, World.ownsRow_nil _ _ _ _, HB1⟩
  case round =>
    obtain ⟨out, A3, c3, rfl, HR, HO, HB⟩ := hrel
    go_wp2_with (refine stop_at (some 12) rfl ?_)
    refine Stop.go (wpList_nextS rfl rfl rfl HR.out (by omega) ?_ ?_)
    · intro hperm
      have HPO := Lib.hid hperm
      clear hperm
      generalize hac : Act.put _ _ _ = a9
      simp [Act.put] at hac
      subst hac
      go_wp2_with fail
      have hol : out.length < 4611686018427387904 := by have := HR.out.le; have := HLN.out; omega
      refine (sorted_any w.heap.size (.slice A3 out.length c3) (out.map (·.1)) wr (by rw [List.length_map]; exact HO.out) (by rw [List.length_map]; exact hol)).mono ?_
      rintro e w5 ⟨ks', rfl, hp5, hs5, ho5, hg5⟩
      have HK := Lib.hid (show ks' = (b.live.map (·.1)) from sorted_keys (m := (b.live.map (·.1))) (hp5.trans (by have := (HPO.out.trans HPM.out).map (·.1); rwa [liveP_keys] at this)) (live_pair HGD.out) (live_ok HGD.out) hs5)
      have HO5 := Lib.hid ho5
      have HB5 := Lib.hid (grown_below HB.out hg5 HO.out (Nat.le_refl _) HB.out.size)
      clear hp5 hs5 ho5 hg5
      go_wp2_with fail
      go_ret
      refine ⟨_, rfl, ?_, HB5.out⟩
      rw [← HK.out]
      exact HO5.out
    · intro p w2 hr2 hg2 hs2 hen
      have HR2 := Lib.hid hr2
      have hne : some w.heap.size ≠ (Value.slice A3 out.length c3).ownBlock := fun he => by
        obtain ⟨es, cl, seen, rest, hit, _⟩ := HR.out
        rcases HO.out.2 with ⟨hn, _⟩ | ⟨q, cap, cur, hv, _, hb, _⟩
        · rw [hn] at he; simp [Value.ownBlock] at he
        · rw [hv] at he
          have : w.heap.size = q := by simpa [Value.ownBlock] using he
          subst this
          rw [hit] at hb
          cases hb
      have HO2 := Lib.hid (HO.out.kept hg2 (Or.inr hne.symm))
      have HB2 := Lib.hid (HB.out.grown hg2 HB.out.size (fun k hk => by injection hk with hk; omega))
      have HOL := Lib.hid (show out.length + 1 ≤ 1000000000 by have := HR2.out.le; rw [List.length_append, List.length_singleton] at this; have := HLN.out; omega)
      have HEN := Lib.hid hen
      have HNE := Lib.hid hne
      clear hr2 hg2 hs2 hne
      generalize hac : Act.put _ _ _ = a9
      simp [Act.put] at hac
      subst hac
      go_wp2_with (refine stop_at (some 4) rfl ?_)
      clear hen
      have hb3 : Below w2.heap.size w2 (w2.alloc (.cells (encK p.1).toArray 34)) := (Below.refl _ _).alloc (Nat.le_refl _) _
      have HO3 := Lib.hid (own_below HO2.out hb3)
      have HR3 := Lib.hid (HR2.out.of_blocks (w' := w2.alloc (.cells (encK p.1).toArray 34)) (hb3.block _ HR2.out.lt) (hb3.block _ HR2.out.lt_map))
      have HB3 := Lib.hid (HB2.out.trans (hb3.mono HB2.out.size))
      have HG3 := Lib.hid (row_cells (vs := encK p.1) (Go.heap_alloc_new w2 (.cells (encK p.1).toArray 34)))
      clear hb3
      refine Stop.go (wpList_alloc rfl 34 rfl zero_key rfl ?_)
      refine wpList_store_agg rfl 34 rfl rfl rfl (store_new2 (g := w2.heap.size) rfl (v := kv p.1) (vs := encK p.1) rfl (key_size _ _ p.1.2) (by rw [encK_len]; simp [hkCells_length, z32_len]) (hkCells_one _ _)) ?_
      generalize w2.alloc (.cells (encK p.1).toArray 34) = w3 at *
      generalize hac : Act.put _ _ _ = a9
      simp [Act.put] at hac
      subst hac
      go_wp2_with (refine stop_at (some 17) rfl ?_)
      refine Stop.go (wpList_load_agg rfl 34 rfl rfl keyTy.ut rfl (cs := encK p.1) (key_size _ _ p.1.2) HG3.out ?_)
      refine wpList_build_one rfl 28 34 rfl rfl (vs := encK p.1) Tryz.underlying28 (z := hkv z32 0) (key_infoB _ _ p.1.2) rfl (by rw [encK_len]; omega) (by rw [encK_len]; decide) ?_
      have hb4 : Below w3.heap.size w3 (w3.alloc (.cells (encK p.1).toArray 34)) := (Below.refl _ _).alloc (Nat.le_refl _) _
      have HO4 := Lib.hid (own_below HO3.out hb4)
      have HR4 := Lib.hid (HR3.out.of_blocks (w' := w3.alloc (.cells (encK p.1).toArray 34)) (hb4.block _ HR3.out.lt) (hb4.block _ HR3.out.lt_map))
      have HB4 := Lib.hid (HB3.out.trans (hb4.mono HB3.out.size))
      have HG4 := Lib.hid (Go.heap_alloc_new w3 (.cells (encK p.1).toArray 34))
      have HS4 := Lib.hid (show (w3.alloc (.cells (encK p.1).toArray 34)).heap.size = w3.heap.size + 1 from Array.size_push _)
      generalize w3.alloc (.cells (encK p.1).toArray 34) = w4 at *
      clear hb4
      have hbw4 := HB4.out.size
      have hol := HOL.out
      refine wpList_app key_app rfl rfl rfl rfl HO4.out (Rd.row (B := w4.heap.size) HG4.out (by rw [HS4.out]; omega)) (m := 1) (by rw [show (encK p.1).toArray.toList = encK p.1 from rfl, encK_len]) (by intro u hu; exact hkCells_one _ _ u hu) ?h63 ?hby ?hbase ?_
      case h63 => simp only [maxLen]; omega
      case hby => omega
      case hbase => exact hbw4
      intro v5 w5 hown5 hg5 hor5 _
      obtain ⟨A5, c5, rfl, _, _⟩ := own_form hown5
      have HR5 := Lib.hid (HR4.out.of_blocks (hg5.block _ HR4.out.lt HNE.out) (hg5.block _ HR4.out.lt_map (fun he => by have := (HO4.out.lt _ he.symm).1; omega)))
      have HB5 := Lib.hid (grown_below HB4.out hg5 HO4.out (Nat.le_refl _) hbw4)
      have HO5 := Lib.hid hown5
      clear hown5 hg5 hor5 hbw4
      generalize hac : Act.put _ _ _ = a9
      simp [Act.put] at hac
      subst hac
      go_wp2_with fail
      go_roundw
      case rel =>
        refine ⟨out ++ [p], A5, c5, by simp, HR5, ?_, HB5⟩
        have hlen : (out ++ [p]).length = out.length + 1 := by simp
        have hks : kcells ((out ++ [p]).map (·.1)) = kcells (out.map (·.1)) ++ (encK p.1).toArray.toList := by simp [kcells]
        rw [hlen, hks]
        exact HO5.out
      case measure =>
        have := HR5.out.le
        rw [List.length_append, List.length_singleton] at this
        simp only [vlen]
        omega

set_option maxRecDepth 100000 in
set_option maxHeartbeats 4000000 in
theorem pins_any (g : Nat) (b : BookD) (w : World) (h : BookAt w g b) (hg : Good b) (hl : b.pins.length ≤ 1000000000) :
    Calls Tryz.prog 27 #[bptr g] w (KeysTo b.pins w) := by
  have HGD := Lib.hid hg
  have hglt := h.lt
  obtain ⟨lm, lp, li, h⟩ := h
  have hc := h.pins_cell
  have HM := Lib.hid h.pins
  have HPM := Lib.hid h.lp_
  have HLN := Lib.hid (show lp.length ≤ 1000000000 by rw [h.lp_.length_eq]; simpa [pinsP] using hl)
  clear h hg hl
  generalize lp = l at *
  go_enter Tryz.func27, Tryz.ntmps27
  go_wp2_with (refine stop_at (some 11) rfl ?_)
  refine Stop.go (wpList_rangeS pinsK rfl rfl rfl HM.out ?_)
  intro w1 hr1 hg1 hs1
  have HB1 := Lib.hid ((Below.refl w.heap.size w).grown hg1 (Nat.le_refl _) (fun k hk => by cases hk))
  have HR1 := Lib.hid hr1
  clear hr1 hg1 hs1
  generalize hac : Act.put _ _ _ = a9
  simp [Act.put] at hac
  subst hac
  go_wp2_with fail
  go_loopw [3] (fun v3 wr => ∃ (out : List (K32 × Value)) (A3 : Option Addr) (c3 : Nat), v3 = .slice A3 out.length c3 ∧ Hid (Ranging kv wr w.heap.size (g + 1) l out) ∧
    Hid (wr.ownsRow w.heap.size 34 33 (.slice A3 out.length c3) out.length (kcells (out.map (·.1)))) ∧ Hid (Below w.heap.size w wr)) (fun v3 _ => l.length - vlen v3)
  case atStart => exact ⟨[], none, 0, rfl, HR1, World.ownsRow_nil _ _ _ _, HB1⟩
  case round =>
    obtain ⟨out, A3, c3, rfl, HR, HO, HB⟩ := hrel
    go_wp2_with (refine stop_at (some 12) rfl ?_)
    refine Stop.go (wpList_nextS rfl rfl rfl HR.out (by omega) ?_ ?_)
    · intro hperm
      have HPO := Lib.hid hperm
      clear hperm
      generalize hac : Act.put _ _ _ = a9
      simp [Act.put] at hac
      subst hac
      go_wp2_with fail
      have hol : out.length < 4611686018427387904 := by have := HR.out.le; have := HLN.out; omega
      refine (sorted_any w.heap.size (.slice A3 out.length c3) (out.map (·.1)) wr (by rw [List.length_map]; exact HO.out) (by rw [List.length_map]; exact hol)).mono ?_
      rintro e w5 ⟨ks', rfl, hp5, hs5, ho5, hg5⟩
      have HK := Lib.hid (show ks' = b.pins from sorted_keys (m := b.pins) (hp5.trans (by have := (HPO.out.trans HPM.out).map (·.1); rwa [pinsP_keys] at this)) HGD.out.pins HGD.out.pok hs5)
      have HO5 := Lib.hid ho5
      have HB5 := Lib.hid (grown_below HB.out hg5 HO.out (Nat.le_refl _) HB.out.size)
      clear hp5 hs5 ho5 hg5
      go_wp2_with fail
      go_ret
      refine ⟨_, rfl, ?_, HB5.out⟩
      rw [← HK.out]
      exact HO5.out
    · intro p w2 hr2 hg2 hs2 hen
      have HR2 := Lib.hid hr2
      have hne : some w.heap.size ≠ (Value.slice A3 out.length c3).ownBlock := fun he => by
        obtain ⟨es, cl, seen, rest, hit, _⟩ := HR.out
        rcases HO.out.2 with ⟨hn, _⟩ | ⟨q, cap, cur, hv, _, hb, _⟩
        · rw [hn] at he; simp [Value.ownBlock] at he
        · rw [hv] at he
          have : w.heap.size = q := by simpa [Value.ownBlock] using he
          subst this
          rw [hit] at hb
          cases hb
      have HO2 := Lib.hid (HO.out.kept hg2 (Or.inr hne.symm))
      have HB2 := Lib.hid (HB.out.grown hg2 HB.out.size (fun k hk => by injection hk with hk; omega))
      have HOL := Lib.hid (show out.length + 1 ≤ 1000000000 by have := HR2.out.le; rw [List.length_append, List.length_singleton] at this; have := HLN.out; omega)
      have HEN := Lib.hid hen
      have HNE := Lib.hid hne
      clear hr2 hg2 hs2 hne
      generalize hac : Act.put _ _ _ = a9
      simp [Act.put] at hac
      subst hac
      go_wp2_with (refine stop_at (some 4) rfl ?_)
      clear hen
      have hb3 : Below w2.heap.size w2 (w2.alloc (.cells (encK p.1).toArray 34)) := (Below.refl _ _).alloc (Nat.le_refl _) _
      have HO3 := Lib.hid (own_below HO2.out hb3)
      have HR3 := Lib.hid (HR2.out.of_blocks (w' := w2.alloc (.cells (encK p.1).toArray 34)) (hb3.block _ HR2.out.lt) (hb3.block _ HR2.out.lt_map))
      have HB3 := Lib.hid (HB2.out.trans (hb3.mono HB2.out.size))
      have HG3 := Lib.hid (row_cells (vs := encK p.1) (Go.heap_alloc_new w2 (.cells (encK p.1).toArray 34)))
      clear hb3
      refine Stop.go (wpList_alloc rfl 34 rfl zero_key rfl ?_)
      refine wpList_store_agg rfl 34 rfl rfl rfl (store_new2 (g := w2.heap.size) rfl (v := kv p.1) (vs := encK p.1) rfl (key_size _ _ p.1.2) (by rw [encK_len]; simp [hkCells_length, z32_len]) (hkCells_one _ _)) ?_
      generalize w2.alloc (.cells (encK p.1).toArray 34) = w3 at *
      generalize hac : Act.put _ _ _ = a9
      simp [Act.put] at hac
      subst hac
      go_wp2_with (refine stop_at (some 17) rfl ?_)
      refine Stop.go (wpList_load_agg rfl 34 rfl rfl keyTy.ut rfl (cs := encK p.1) (key_size _ _ p.1.2) HG3.out ?_)
      refine wpList_build_one rfl 28 34 rfl rfl (vs := encK p.1) Tryz.underlying28 (z := hkv z32 0) (key_infoB _ _ p.1.2) rfl (by rw [encK_len]; omega) (by rw [encK_len]; decide) ?_
      have hb4 : Below w3.heap.size w3 (w3.alloc (.cells (encK p.1).toArray 34)) := (Below.refl _ _).alloc (Nat.le_refl _) _
      have HO4 := Lib.hid (own_below HO3.out hb4)
      have HR4 := Lib.hid (HR3.out.of_blocks (w' := w3.alloc (.cells (encK p.1).toArray 34)) (hb4.block _ HR3.out.lt) (hb4.block _ HR3.out.lt_map))
      have HB4 := Lib.hid (HB3.out.trans (hb4.mono HB3.out.size))
      have HG4 := Lib.hid (Go.heap_alloc_new w3 (.cells (encK p.1).toArray 34))
      have HS4 := Lib.hid (show (w3.alloc (.cells (encK p.1).toArray 34)).heap.size = w3.heap.size + 1 from Array.size_push _)
      generalize w3.alloc (.cells (encK p.1).toArray 34) = w4 at *
      clear hb4
      have hbw4 := HB4.out.size
      have hol := HOL.out
      refine wpList_app key_app rfl rfl rfl rfl HO4.out (Rd.row (B := w4.heap.size) HG4.out (by rw [HS4.out]; omega)) (m := 1) (by rw [show (encK p.1).toArray.toList = encK p.1 from rfl, encK_len]) (by intro u hu; exact hkCells_one _ _ u hu) ?h63 ?hby ?hbase ?_
      case h63 => simp only [maxLen]; omega
      case hby => omega
      case hbase => exact hbw4
      intro v5 w5 hown5 hg5 hor5 _
      obtain ⟨A5, c5, rfl, _, _⟩ := own_form hown5
      have HR5 := Lib.hid (HR4.out.of_blocks (hg5.block _ HR4.out.lt HNE.out) (hg5.block _ HR4.out.lt_map (fun he => by have := (HO4.out.lt _ he.symm).1; omega)))
      have HB5 := Lib.hid (grown_below HB4.out hg5 HO4.out (Nat.le_refl _) hbw4)
      have HO5 := Lib.hid hown5
      clear hown5 hg5 hor5 hbw4
      generalize hac : Act.put _ _ _ = a9
      simp [Act.put] at hac
      subst hac
      go_wp2_with fail
      go_roundw
      case rel =>
        refine ⟨out ++ [p], A5, c5, by simp, HR5, ?_, HB5⟩
        have hlen : (out ++ [p]).length = out.length + 1 := by simp
        have hks : kcells ((out ++ [p]).map (·.1)) = kcells (out.map (·.1)) ++ (encK p.1).toArray.toList := by simp [kcells]
        rw [hlen, hks]
        exact HO5.out
      case measure =>
        have := HR5.out.le
        rw [List.length_append, List.length_singleton] at this
        simp only [vlen]
        omega
end Go.Proofs.YtplbcbamnjnhlaaGreatDoor
